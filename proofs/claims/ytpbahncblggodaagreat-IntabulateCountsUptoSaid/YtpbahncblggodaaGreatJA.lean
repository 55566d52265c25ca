/- Plain laws, joined by gen/joinH.py. -/
import Derived.Test.YtpbahncblggodaaGreatLq
import Derived.Test.YtpbahncblggodaaGreatTD
set_option linter.all false
namespace Go.Am
open Go.RowKit
theorem IA{σ τ:Type}{body:σ->Option (σ⊕τ)}(Inv:Nat->σ->Prop)(lg:τ->Prop)(n:Nat)
  (hb: ∀k s,k<n->Inv k s->(∃s',body s=some (.inl s')/\Inv (k+1) s')\/(∃r,body s=some (.inr r)/\lg r))
  (he: ∀s,Inv n s-> ∃r,body s=some (.inr r)/\lg r): ∀(d k F:Nat)(s:σ),k+d=n->d<F->Inv k s-> ∃r,bZ body F s=some r/\lg r
 |0,k,F,s,hk,hF,hi=>by
  have:k=n:=by omega
  subst this
  obtain⟨r,h1,h2⟩:=he s hi
  cases F with
  |zero=>omega
  |succ F=>exact⟨r,by simp only[bZ,h1],h2⟩
 |d+1,k,F,s,hk,hF,hi=>by
  cases F with
  |zero=>omega
  |succ F=>
   rcases hb k s (by omega) hi with⟨s',h1,h2⟩|⟨r,h1,h2⟩
   ·obtain⟨r,h3,h4⟩:=IA Inv lg n hb he d (k+1) F s' (by omega) (by omega) h2
    exact⟨r,by simp only[bZ,h1,h3],h4⟩
   ·exact⟨r,by simp only[bZ,h1],h2⟩
theorem j7{σ τ:Type}{body:σ->Option (σ⊕τ)}(Inv:Nat->σ->Prop)(lg:τ->Prop)(n:Nat){s0:σ}(hn:n<=4194304)(h0:Inv 0 s0)
  (hb: ∀k s,k<n->Inv k s->(∃s',body s=some (.inl s')/\Inv (k+1) s')\/(∃r,body s=some (.inr r)/\lg r))
  (he: ∀s,Inv n s-> ∃r,body s=some (.inr r)/\lg r): ∃r,bZ body cz s0=some r/\lg r:=
 IA Inv lg n hb he n 0 cz s0 (by omega) (by unfold cz;omega) h0
theorem iw{α β:Type}{x:Option α}{f:α->Option β}{P1:α->Prop}{P:β->Prop}(h1: ∃r,x=some r/\P1 r)(h2: ∀r,P1 r-> ∃z,f r=some z/\P z): ∃z,x.bind f=some z/\P z:=by
 obtain⟨r,e,hr⟩:=h1
 subst e
 exact h2 r hr
theorem dg{α:Type}{p:Prop}[Decidable p]{x:Option α}(h:p):cu p x=x:=dD h
theorem Ww{α:Type}{l:List α}{i:Int}{x:α}(k:Nat)(hi:i=(k:Int))(h:l[k]? =some x):ix l i=some x:=by subst hi;exact cj h
theorem Wx{α:Type}{b:Bool}{x y:Option α}{P:α->Prop}(h1:b=true-> ∃z,x=some z/\P z)(h2:b=false-> ∃z,y=some z/\P z): ∃z,(bif b then x else y)=some z/\P z:=by
 cases b
 ·exact h2 rfl
 ·exact h1 rfl
theorem iL{n:Int}(h1: -9223372036854775808<=n)(h2:n<=9223372036854775807):wr n=n:=sY h1 h2
theorem eK{σ τ β:Type}{body:σ->Option (σ⊕τ)}{f:τ->Option β}{P:β->Prop}{s0:σ}(Inv:Nat->σ->Prop)(lg:τ->Prop)(n:Nat)(hn:n<=4194304)(h0:Inv 0 s0)
  (hb: ∀k s,k<n->Inv k s->(∃s',body s=some (.inl s')/\Inv (k+1) s')\/(∃r,body s=some (.inr r)/\lg r))
  (he: ∀s,Inv n s-> ∃r,body s=some (.inr r)/\lg r) (k: ∀r,lg r-> ∃z,f r=some z/\P z): ∃z,(bZ body cz s0).bind f=some z/\P z:=
 iw (j7 Inv lg n hn h0 hb he) k
end Go.Am
set_option linter.all false
namespace Go.Proofs.YtpbahncblggodaaGreat
open Go Go.Am
set_option maxRecDepth 100000
theorem f85_eq(a lo hi:Int):f85 a lo hi=some (decide (lo<=a)&&decide (a<=hi)):=by
 unfold f85
 cases decide (lo<=a)<;>rfl
def om(a lo hi:Int):Bool:=decide (lo<=a)&&decide (a<=hi)
theorem f40_eq(a lo hi:Int):f40 a lo hi=some (om a lo hi):=by
 unfold f40 om
 cases decide (lo<=a)<;>rfl
theorem f75_eq(a lo hi:Int):f75 a lo hi=some (om a lo hi):=f40_eq a lo hi
theorem PY(a b:Bool):(bif a then some true else some b)=some (a||b):=by cases a<;>rfl
theorem Nc(x lo hi:Int):(!(om x lo hi))=(decide (x<lo)||decide (hi<x)):=by
 unfold om
 by_cases h1:x<lo<;>by_cases h2:hi<x<;>simp[h1,h2]<;>omega
theorem mh{α:Type}(l:List α)(p:α->Bool):l.any (λx=>!p x)=!(l.all p):=by simp[List.any_eq_not_all_not]
def wX(e:Int)(t:bP):Bool:=!(om t.bY 0 127)||(decide (t.bW<e)||(decide (t.dx<=t.bW)||decide (262144<t.dx)))
def Ax:Int->List bP->Bool
 |_,[]=>true
 |e,t::r=>!(wX e t)&&Ax t.dx r
def qD(l:List (List bP)):Bool:=decide (6<l.length)||l.any λp=>decide (400<p.length)
def jr(l:List (List bP)):Int:=if qD l then 2 else if l.all (Ax 0)then 0 else 80
theorem f138_eq(l:List (List bP))(hs:bU l):f138 l=some (gG (λp=>decide (400<p.length)) l):=by
 unfold f138
 rw[ey l (λp=>decide (400<p.length)) (λi _=>(i:Int)) hs]
 ·simp only[cK,fC,gG]
  cases l.findIdx? _<;>simp
 ·intro i y hy
  have e:decide (400<(y.length:Int))=decide (400<y.length):=by simp;omega
  simp only[cJ hy,cS,cj hy,cK,f74,e]
  cases decide (400<y.length)<;>rfl
 ·simp
theorem f73_eq(l:List (List bP))(hs:bU l):f73 l=some (l.any λp=>decide (400<p.length)):=by
 unfold f73
 rw[f138_eq l hs]
 simp only[cK,gb]
def stepT{τ:Type}(c:τ):Nat->Int->bP->Int⊕(Unit⊕τ):=λ_ e t=>bif wX e t then .inr (.inr c)else .inl t.dx
theorem Nf{τ:Type}(c:τ): ∀(l:List bP)(k:Nat)(e:Int),jG (stepT c) (λ_=>.inl ()) k l e=bif Ax e l then .inl ()else .inr c
 | [],_,_=>rfl
 |t::r,k,e=>by
  simp only[jG,stepT,Ax]
  cases wX e t with
  |true=>rfl
  |false=>simp only[dj];rw[Nf c r];rfl
theorem f28_eq(l:List (List bP))(hs:bU l):f28 l=some (jr l):=by
 have Wy:((bif (decide (6<(l.length:Int)))then(some true)else((f73 l).bind λr2=>some r2)):Option Bool)=some (qD l):=by
  rw[f73_eq l hs]
  unfold qD
  have e:decide (6<(l.length:Int))=decide (6<l.length):=by simp;omega
  rw[e]
  cases decide (6<l.length)<;>rfl
 unfold f28
 rw[Wy]
 simp only[cK]
 cases hm:qD l with
 |true=>simp[jr,hm]
 |false=>
  simp only[dj]
  have dA: ∀p∈l,p.length<=400:=λp hp=>by
   simp only[qD,Fx,KA,xL]at hm
   have:=hm.2 p hp
   omega
  rw[ey l (λp=>!(Ax 0 p)) (λ_ _=>80) hs]
  ·simp only[cK,vz,jr,hm,mh]
   cases l.all (Ax 0)<;>rfl
  ·intro i p hp
   have CQ:bU p:=by have:=dA p (gz hp);simp only[bU];omega
   simp only[cJ hp,cS,cj hp,cK]
   rw[jj (λ(e:Int)i=>(e,i)) (stepT (τ:=Int⊕(Unit⊕Int)) (.inr (.inr 80))) (λ_=>.inl ()) p (λ_ _=>True) 0 (il CQ) trivial]
   ·rw[Nf]
    cases Ax 0 p<;>rfl
   ·intro j e t ht _
    refine⟨?_,λ_ _=>trivial⟩
    simp only[cJ ht,cS,cj ht,cK,f75_eq,stepT,wX,dI CQ ht]
    cases om t.bY 0 127<;>cases decide (t.bW<e)<;>cases decide (t.dx<=t.bW)<;>cases decide (262144<t.dx)<;>rfl
   ·intro e _;simp
  ·simp
theorem f82_eq(l:List bP)(hs:bU l):f82 l=some (Ax 0 l):=by
 unfold f82
 rw[jj (λ(_:Int)i=>i) (stepT (τ:=Bool) false) (λ_=>.inl ()) l (λi e=>0<=e/\(i=0->e=0)/\ ∀j,i=j+1-> ∃p,l[j]? =some p/\e=p.dx) 0 (il hs) ⟨Int.le_refl _,λ_=>rfl,λj h=>by cases h⟩]
 ·rw[Nf]
  cases Ax 0 l<;>rfl
 ·intro i e t ht ⟨h0,h1,h2⟩
  constructor
  ·have hb:((bif (decide (t.bY<0))then(some true)else(bif (decide (127<t.bY))then(some true)else(bif (decide (t.bW<0))then(some true)else(bif (decide (t.dx<=t.bW))then(some true)else(bif (decide (262144<t.dx))then(some true)else(bif (decide (0<(i:Int)))then((ix l (wr ((i:Int)-1))).bind λy9=>some (decide (t.bW<y9.dx)))else(some false))))))):Option Bool)=some (wX e t):=by
    cases i with
    |zero=>
     have:=h1 rfl
     subst this
     have d6:decide (0<((0:Nat):Int))=false:=by simp
     simp only[d6,dj,PY,wX,Nc,XD]
     cases decide (t.bY<0)<;>cases decide (127<t.bY)<;>cases decide (t.bW<0)<;>cases decide (t.dx<=t.bW)<;>cases decide (262144<t.dx)<;>rfl
    |succ j=>
     obtain⟨p,hp,rfl⟩:=h2 j rfl
     have hw:wr (((j+1:Nat):Int)-1)=(j:Int):=by
      have:=(fP.1 hp).1
      simp only[bU]at hs
      rw[sY (by omega) (by omega)];omega
     rw[hw,cj hp]
     have d6:decide (0<((j+1:Nat):Int))=true:=by simp <;>omega
     simp only[d6,cS,cK,PY,wX,Nc,XD]
     by_cases c3:t.bW<0
     ·have c6:t.bW<p.dx:=by omega
      simp only[c3,c6,gp,Bool.true_or,Bool.or_true]
     ·have e3:decide (t.bW<0)=false:=by simpa using c3
      rw[e3]
      cases decide (t.bY<0)<;>cases decide (127<t.bY)<;>cases decide (t.bW<p.dx)<;>cases decide (t.dx<=t.bW)<;>cases decide (262144<t.dx)<;>rfl
   simp only[cJ ht,cS,cj ht,cK]
   rw[hb]
   simp only[cK,stepT,dI hs ht]
   cases wX e t<;>rfl
  ·intro e' he
   simp only[stepT]at he
   cases hb:wX e t with
   |true=>rw[hb]at he;cases he
   |false=>
    rw[hb]at he
    cases he
    refine⟨?_,(λh=>by cases h),(λj hj=>by cases hj;exact⟨t,ht,rfl⟩)⟩
    simp only[wX,Fx,Jj]at hb
    omega
 ·intro e _;simp
theorem f33_eq(l:List (List bP))(hs:bU l):f33 l=some (jr l):=by
 unfold f33
 rw[jj (λ(b:Bool)i=>(b,i)) (λ_ b(p:List bP)=>(.inl (b||decide (400<p.length)):Bool⊕Bool)) (λb=>b) l (λ_ _=>True) (decide (6<(l.length:Int))) (il hs) trivial]
 ·have key: ∀(r:List (List bP))(k:Nat)(b:Bool),jG (λ_ b(p:List bP)=>(.inl (b||decide (400<p.length)):Bool⊕Bool)) (λb=>b) k r b=(b||r.any λp=>decide (400<p.length)):=by
   intro r
   induction r with
   |nil=>intro k b;simp[jG]
   |cons p r ih=>intro k b;simp only[jG,ih,U4,XD]
  rw[key]
  have e:decide (6<(l.length:Int))=decide (6<l.length):=by simp;omega
  rw[e]
  show(Option.bind (some (qD l)) _)=_
  simp only[cK]
  cases hm:qD l with
  |true=>simp[jr,hm]
  |false=>
   simp only[dj]
   have hp: ∀p∈l,bU p:=λp hp=>by
    simp only[qD,Fx,KA,xL]at hm
    have:=hm.2 p hp
    simp only[bU];omega
   rw[ey l (λp=>!(Ax 0 p)) (λ_ _=>80) hs]
   ·simp only[cK,vz,jr,hm,mh]
    cases l.all (Ax 0)<;>rfl
   ·intro i p jN
    simp only[cJ jN,cS,cj jN,cK,f82_eq p (hp p (gz jN))]
    cases Ax 0 p<;>rfl
   ·simp
 ·intro i b p jN _
  refine⟨?_,λ_ _=>trivial⟩
  have e:decide (400<(p.length:Int))=decide (400<p.length):=by simp;omega
  simp only[cJ jN,cS,cj jN,cK,dI hs jN,e]
  cases b<;>rfl
 ·intro b _;simp
theorem jk{l:List (List bP)}(h:jr l=0):l.length<=6/\ ∀p∈l,p.length<=400/\Ax 0 p=true:=by
 unfold jr at h
 split at h
 ·cases h
 ·rename_i h1
  split at h
  ·rename_i h2
   simp only[qD,tz,xL,vV,not_or,not_exists,not_and]at h1
   exact⟨by omega,λp hp=>⟨by have:=h1.2 p hp;omega,pT.1 h2 p hp⟩⟩
  ·cases h
theorem GO(a b:Nat):decide ((a:Int)<(b:Int))=decide (a<b):=by
 by_cases h:a<b
 ·have:(a:Int)<b:=by omega
  simp[h,this]
 ·have: ¬(a:Int)<b:=by omega
  simp[h,this]
def lh:Int->List Int->Bool
 |_,[]=>true
 |e,y::r=>!(decide (y<=e)||decide (127<y))&&lh y r
def sZ(s:List Int)(c:cO):Int:=bif decide (0<c.dG)then wr (c.bY+(s[(c.dG-1).toNat]?).getD 0)else c.bY
def Ay(s:List Int)(c:cO):Int:=bif c.js then wr (sZ s c+12)else sZ s c
def gO(s:List Int)(c:cO):Int:=
 bif decide (c.dG<0)||decide ((s.length:Int)<c.dG)then 13 else bif decide (c.bY<0)||(decide (127<c.bY)||decide (127<Ay s c))then 10 else 0
def Az(s:List Int)(c:cO):Bool:=decide (gO s c≠0)
def instS(a:bK):Int:=
 bif decide (14<a.ck.length)||decide (18<a.bN.length)then 2 else bif decide (a.ck.length=0)then 11 else bif lh 0 a.bN then
  (match a.ck.find? (Az a.bN)with
   |some c=>gO a.bN c
   |none=>0)
 else 11
theorem f135_eq(a:bK)(c:cO)(h1:c.dG<=(a.bN.length:Int))(h2:a.bN.length<=18):f135 a c=some (Ay a.bN c):=by
 unfold f135 Ay sZ
 by_cases h:0<c.dG
 ·have hw:wr (c.dG-1)=(((c.dG-1).toNat:Nat):Int):=by rw[sY (by omega) (by omega)];omega
  have hl:(c.dG-1).toNat<a.bN.length:=by omega
  have hg:a.bN[(c.dG-1).toNat]? =some a.bN[(c.dG-1).toNat]:=dH hl
  have hd:decide (0<c.dG)=true:=by simpa using h
  simp only[hd,cS,hw,cj hg,hg,cK,Ab]
  cases c.js<;>rfl
 ·have hd:decide (0<c.dG)=false:=by simpa using h
  simp only[hd,dj,cK]
  cases c.js<;>rfl
theorem s7: ∀(l:List Int)(k:Nat)(e:Int),jG (λ_(e:Int)y=>(bif decide (y<=e)||decide (127<y)then .inr (.inr 11)else .inl y:Int⊕(Unit⊕Int))) (λ_=>.inl ()) k l e=bif lh e l then .inl ()else .inr 11
 | [],_,_=>rfl
 |y::r,k,e=>by
  simp only[jG,lh]
  cases(decide (y<=e)||decide (127<y))with
  |true=>rfl
  |false=>simp only[dj,Hz,Uh];exact s7 r (k+1) y
theorem Ng(a b:Nat):((bif (decide (14<(a:Int)))then(some true)else(some (decide (18<(b:Int))))):Option Bool)=some (decide (14<a)||decide (18<b)):=by
 have e1:decide (14<(a:Int))=decide (14<a):=GO 14 a
 have e2:decide (18<(b:Int))=decide (18<b):=GO 18 b
 rw[e1,e2]
 cases decide (14<a)<;>rfl
theorem Wz{α:Type}(l:List α):decide ((l.length:Int)=0)=decide (l.length=0):=by
 by_cases h:l.length=0
 ·simp[h]
 ·have: ¬(l.length:Int)=0:=by omega
  simp[h,this]
theorem f70_eq(a:bK):f70 a=some (instS a):=by
 unfold f70 instS
 rw[Ng,Wz]
 simp only[cK]
 cases hm:(decide (14<a.ck.length)||decide (18<a.bN.length))with
 |true=>rfl
 |false=>
  simp only[Fx,Jj]at hm
  have hs:bU a.bN:=by simp only[bU];omega
  have hc:bU a.ck:=by simp only[bU];omega
  simp only[dj]
  cases decide (a.ck.length=0)with
  |true=>rfl
  |false=>
   simp only[dj]
   rw[jj (λ(e:Int)i=>(e,i)) (λ_(e:Int)y=>(bif decide (y<=e)||decide (127<y)then .inr (.inr 11)else .inl y:Int⊕(Unit⊕Int))) (λ_=>.inl ()) a.bN (λ_ _=>True) 0 (il hs) trivial]
   ·rw[s7]
    simp only[cK]
    cases lh 0 a.bN with
    |false=>rfl
    |true=>
     simp only[cS,Ac]
     rw[ey a.ck (Az a.bN) (λ_ c=>gO a.bN c) hc]
     ·simp only[cK,li]
      cases a.ck.find? (Az a.bN)<;>rfl
     ·intro i c UH
      simp only[cJ UH,cS,cj UH,cK,PY,Az]
      cases hb:(decide (c.dG<0)||decide ((a.bN.length:Int)<c.dG))with
      |true=>
       have:gO a.bN c=13:=by unfold gO;rw[hb];rfl
       rw[this];rfl
      |false=>
       have nq:=hb
       simp only[Fx,Jj]at hb
       simp only[dj,f135_eq a c (by omega) (by omega),cK,PY]
       cases xf:(decide (c.bY<0)||(decide (127<c.bY)||decide (127<Ay a.bN c)))with
       |true=>
        have:gO a.bN c=10:=by unfold gO;rw[nq,xf];rfl
        rw[this];rfl
       |false=>
        have:gO a.bN c=0:=by unfold gO;rw[nq,xf];rfl
        rw[this];rfl
     ·simp
   ·intro i e y hy _
    refine⟨?_,λ_ _=>trivial⟩
    simp only[cJ hy,cS,cj hy,cK,PY,dI hs hy]
    cases(decide (y<=e)||decide (127<y))<;>rfl
   ·intro e _;simp
theorem instS_ok{a:bK}(h:instS a=0):a.ck.length<=14/\a.bN.length<=18/\0<a.ck.length/\lh 0 a.bN=true/\ ∀c∈a.ck,gO a.bN c=0:=by
 unfold instS at h
 cases hm:(decide (14<a.ck.length)||decide (18<a.bN.length))with
 |true=>rw[hm]at h;cases h
 |false=>
  rw[hm]at h
  simp only[Fx,Jj]at hm
  simp only[dj]at h
  cases h0:decide (a.ck.length=0)with
  |true=>rw[h0]at h;cases h
  |false=>
   rw[h0]at h
   simp only[dj]at h
   cases iz:lh 0 a.bN with
   |false=>rw[iz]at h;cases h
   |true=>
    rw[iz]at h
    simp only[cS]at h
    simp only[Jj]at h0
    refine⟨by omega,by omega,by omega,rfl,λc hc=>?_⟩
    cases hf:a.ck.find? (Az a.bN)with
    |some d=>
     rw[hf]at h
     have:=List.find?_some hf
     simp only[Az,xL]at this
     exact absurd h this
    |none=>
     have:=List.find?_eq_none.1 hf c hc
     simpa[Az]using this
theorem ka{s:List Int}{c:cO}(h:gO s c=0):0<=c.dG/\c.dG<=(s.length:Int)/\0<=c.bY/\c.bY<=127/\Ay s c<=127:=by
 unfold gO at h
 cases hb:(decide (c.dG<0)||decide ((s.length:Int)<c.dG))with
 |true=>rw[hb]at h;cases h
 |false=>
  rw[hb]at h
  cases xf:(decide (c.bY<0)||(decide (127<c.bY)||decide (127<Ay s c)))with
  |true=>rw[xf]at h;cases h
  |false=>
   simp only[Fx,Jj]at hb xf
   omega
def jt(s:List Int)(c:cO)(k:Nat):Int:=if k=0 then c.bY else wr (c.bY+(s[k-1]?).getD 0)
def kQ(s:List Int)(p:Int)(i:Nat)(c:cO)(n:Nat):List aW:=((List.range n).filter λk=>decide (jt s c k=p)).map λ(k:Nat)=>(⟨((i+1:Nat):Int),(k:Int)⟩:aW)
def fw(s:List Int)(p:Int):Nat->List cO->List aW
 |_,[]=>[]
 |i,c::r=>kQ s p i c (c.dG.toNat+1)++fw s p (i+1) r
def eD(a:bK)(p:Int):List aW×Int:=
 if instS a=0 then(bif decide (p<0)||decide (127<p)then([],10)else(fw a.bN p 0 a.ck,0))else([],instS a)
theorem BB(s:List Int)(p:Int)(i:Nat)(c:cO)(n:Nat):kQ s p i c (n+1)=kQ s p i c n++(bif decide (jt s c n=p)then [⟨((i+1:Nat):Int),(n:Int)⟩]else []):=by
 unfold kQ
 rw[XE,Dq,Dm]
 cases h:decide (jt s c n=p)<;>simp[h]
theorem uB(s:List Int)(p:Int)(i:Nat)(c:cO)(n:Nat):(kQ s p i c n).length<=n:=by
 unfold kQ
 rw[mB]
 exact vU (sq _ _) (by simp)
theorem f71_eq(a:bK)(c:cO)(k:Nat)(h:(k:Int)<=c.dG)(h1:c.dG<=(a.bN.length:Int))(h2:a.bN.length<=18):f71 a c (k:Int)=some (jt a.bN c k):=by
 unfold f71 jt
 by_cases h0:k=0
 ·subst h0;rfl
 ·have hd:decide ((k:Int)=0)=false:=by simp;omega
  have hw:wr ((k:Int)-1)=((k-1:Nat):Int):=by rw[sY (by omega) (by omega)];omega
  have hg:a.bN[k-1]? =some a.bN[k-1]:=dH (by omega)
  rw[hd,dj,hw,cj hg,dM h0,hg];rfl
theorem wz(s:List Int)(p:Int): ∀(l:List cO)(i:Nat)(a:List aW),jG (λi a(c:cO)=>(.inl (a++kQ s p i c (c.dG.toNat+1)):List aW⊕List aW)) (λa=>a) i l a=a++fw s p i l
 | [],_,_=>by simp[jG,fw]
 |c::r,i,a=>by simp only[jG,wz s p r,fw,DC]
theorem f124_eq(a:bK)(p:Int):f124 a p=some (eD a p):=by
 unfold f124 eD
 rw[f70_eq]
 simp only[cK,PY]
 by_cases hi:instS a=0
 ·obtain⟨i1,i2,i3,i4,i5⟩:=instS_ok hi
  have hd:decide (instS a≠0)=false:=by simpa using hi
  have tK:bU a.ck:=by simp only[bU];omega
  rw[hd,dj,dD hi]
  cases(decide (p<0)||decide (127<p))with
  |true=>rfl
  |false=>
   simp only[dj]
   rw[jj (λ(x:List aW)i=>(x,i)) (λi x(c:cO)=>(.inl (x++kQ a.bN p i c (c.dG.toNat+1)):List aW⊕List aW)) (λx=>x) a.ck (λi x=>x.length<=19*i) [] (il tK) (by simp)]
   ·rw[wz];simp
   ·intro i x c hc hx
    have sO:=(fP.1 hc).1
    obtain⟨k1,k2,k3,k4,k5⟩:=ka (i5 c (gz hc))
    constructor
    ·simp only[cJ hc,cS,cj hc,cK,dI tK hc]
     rw[jf (λk=>(x++kQ a.bN p i c k,(k:Int))) (c.dG.toNat+1) (by omega) (by simp[kQ]) (r:=x++kQ a.bN p i c (c.dG.toNat+1))]
     ·rfl
     ·intro k hk
      have eE:decide ((k:Int)<=c.dG)=true:=by simp;omega
      have hl:=uB a.bN p i c k
      have hm:(x++kQ a.bN p i c k).length+1<=bJ:=by rw[jW];unfold bJ;omega
      have hw:wr ((k:Int)+1)=((k+1:Nat):Int):=gH (by omega)
      simp only[eE,cS,f71_eq a c k (by omega) k2 i2,cK,hw,cu,dD hm,BB]
      cases decide (jt a.bN c k=p)with
      |true=>simp
      |false=>simp
     ·have eE:decide (((c.dG.toNat+1:Nat):Int)<=c.dG)=false:=by simp;omega
      simp only[eE,dj]
    ·intro x' he
     cases he
     have hl:=uB a.bN p i c (c.dG.toNat+1)
     rw[jW]
     omega
   ·intro x _;simp
 ·have hd:decide (instS a≠0)=true:=by simpa using hi
  rw[hd,dM hi];rfl
def s8(l:List (List bP))(a:bK):Int:=if jr l=0 then instS a else jr l
theorem f38_eq(l:List (List bP))(a:bK)(hl:bU l):f38 l a=some (s8 l a):=by
 unfold f38 s8
 rw[f28_eq l hl,f70_eq]
 simp only[cK]
 by_cases h:jr l=0<;>simp[h]
theorem EE{l:List (List bP)}{a:bK}(h:s8 l a=0):jr l=0/\instS a=0:=by
 unfold s8 at h
 split at h
 ·rename_i h1;exact⟨h1,h⟩
 ·rename_i h1;exact absurd h h1
theorem PZ(a:bK)(c:cO)(h1:c.dG<=(a.bN.length:Int))(h2:a.bN.length<=18):
  ((bif (decide (0<c.dG))then((ix a.bN (wr (c.dG-1))).bind λy=>some (wr (c.bY+y)))else(some c.bY)):Option Int)=some (sZ a.bN c):=by
 unfold sZ
 by_cases h:0<c.dG
 ·have hw:wr (c.dG-1)=(((c.dG-1).toNat:Nat):Int):=by rw[sY (by omega) (by omega)];omega
  have hl:(c.dG-1).toNat<a.bN.length:=by omega
  have hg:a.bN[(c.dG-1).toNat]? =some a.bN[(c.dG-1).toNat]:=dH hl
  have hd:decide (0<c.dG)=true:=by simpa using h
  simp only[hd,cS,hw,cj hg,hg,cK,Ab]
 ·have hd:decide (0<c.dG)=false:=by simpa using h
  simp only[hd,dj]
theorem f15_eq(a:bK):f15 a=some (instS a):=by
 unfold f15 instS
 rw[Ng,Wz]
 simp only[cK]
 cases hm:(decide (14<a.ck.length)||decide (18<a.bN.length))with
 |true=>rfl
 |false=>
  simp only[Fx,Jj]at hm
  have hs:bU a.bN:=by simp only[bU];omega
  have hc:bU a.ck:=by simp only[bU];omega
  simp only[dj]
  cases decide (a.ck.length=0)with
  |true=>rfl
  |false=>
   simp only[dj]
   rw[jj (λ(e:Int)i=>(e,i)) (λ_(e:Int)y=>(bif decide (y<=e)||decide (127<y)then .inr (.inr 11)else .inl y:Int⊕(Unit⊕Int))) (λ_=>.inl ()) a.bN (λ_ _=>True) 0 (il hs) trivial]
   ·rw[s7]
    simp only[cK]
    cases lh 0 a.bN with
    |false=>rfl
    |true=>
     simp only[cS,Ac]
     rw[ey a.ck (Az a.bN) (λ_ c=>gO a.bN c) hc]
     ·simp only[cK,li]
      cases a.ck.find? (Az a.bN)<;>rfl
     ·intro i c UH
      simp only[cJ UH,cS,cj UH,cK,PY,Az]
      cases hb:(decide (c.dG<0)||decide ((a.bN.length:Int)<c.dG))with
      |true=>
       have:gO a.bN c=13:=by unfold gO;rw[hb];rfl
       rw[this];rfl
      |false=>
       have nq:=hb
       simp only[Fx,Jj]at hb
       simp only[dj]
       have PQ:gO a.bN c=bif decide (c.bY<0)||(decide (127<c.bY)||decide (127<Ay a.bN c))then 10 else 0:=by unfold gO;rw[nq];rfl
       rw[PQ]
       cases h1:decide (c.bY<0)with
       |true=>rfl
       |false=>
        cases h2:decide (127<c.bY)with
        |true=>rfl
        |false=>
         simp only[U8,dj,Hx,PZ a c (by omega) (by omega),cK]
         have ht:((bif c.js then(some (wr (sZ a.bN c+12)))else(some (sZ a.bN c))):Option Int)=some (Ay a.bN c):=by unfold Ay;cases c.js<;>rfl
         rw[ht]
         simp only[cK]
         cases decide (127<Ay a.bN c)<;>rfl
     ·simp
   ·intro i e y hy _
    refine⟨?_,λ_ _=>trivial⟩
    simp only[cJ hy,cS,cj hy,cK,PY,dI hs hy]
    cases(decide (y<=e)||decide (127<y))<;>rfl
   ·intro e _;simp
theorem f83_eq(a:bK)(c:cO)(i k:Nat)(hi:a.ck[i]? =some c)(WA:i<14)(h:(k:Int)<=c.dG)(h1:c.dG<=(a.bN.length:Int))(h2:a.bN.length<=18):
  f83 a ⟨((i+1:Nat):Int),(k:Int)⟩=some (jt a.bN c k):=by
 unfold f83 jt
 have hw:wr (((i+1:Nat):Int)-1)=(i:Int):=by rw[sY (by omega) (by omega)];omega
 simp only[hw,cj hi,cK]
 by_cases h0:k=0
 ·subst h0;rfl
 ·have hd:decide (0<(k:Int))=true:=by simp;omega
  have hw:wr ((k:Int)-1)=((k-1:Nat):Int):=by rw[sY (by omega) (by omega)];omega
  have hg:a.bN[k-1]? =some a.bN[k-1]:=dH (by omega)
  rw[hd,cS,hw,cj hg,dM h0,hg];rfl
theorem uC(s:List Int)(p:Int)(c:cO): ∀(l:List cO)(i:Nat),fw s p i (l++[c])=fw s p i l++kQ s p (i+l.length) c (c.dG.toNat+1)
 | [],i=>by simp[fw]
 |d::r,i=>by
  simp only[wI,fw,uC s p c r,DC,oG]
  congr 3
  omega
theorem qE(s:List Int)(p:Int): ∀(l:List cO)(i:Nat),(∀c∈l,c.dG.toNat<=18)->(fw s p i l).length<=19*l.length
 | [],i,_=>by simp[fw]
 |c::r,i,h=>by
  have h1:=qE s p r (i+1) λd hd=>h d (Jh _ hd)
  have h2:=uB s p i c (c.dG.toNat+1)
  have h3:=h c (by simp)
  simp only[fw,jW,oG]
  omega
theorem f35_eq(a:bK)(p:Int):f35 a p=some (eD a p):=by
 unfold f35 eD
 rw[f15_eq]
 simp only[cK,PY]
 by_cases hi:instS a=0
 ·obtain⟨i1,i2,i3,i4,i5⟩:=instS_ok hi
  have sx: ∀c∈a.ck,c.dG.toNat<=18:=λc hc=>by
   have:=ka (i5 c hc)
   omega
  have hd:decide (instS a≠0)=false:=by simpa using hi
  rw[hd,dj,dD hi]
  cases(decide (p<0)||decide (127<p))with
  |true=>rfl
  |false=>
   simp only[dj]
   rw[jf (λi=>(fw a.bN p 0 (a.ck.take i),((i+1:Nat):Int))) a.ck.length (by omega) (by simp[fw]) (r:=fw a.bN p 0 a.ck)]
   ·rfl
   ·intro i sO
    obtain⟨c,hc⟩: ∃c,a.ck[i]? =some c:=⟨_,dH sO⟩
    obtain⟨k1,k2,k3,k4,k5⟩:=ka (i5 c (gz hc))
    have eE:decide (((i+1:Nat):Int)<=(a.ck.length:Int))=true:=by simp;omega
    have Vk:wr (((i+1:Nat):Int)-1)=(i:Int):=by rw[sY (by omega) (by omega)];omega
    have DT:wr (((i+1:Nat):Int)+1)=((i+1+1:Nat):Int):=gH (by omega)
    have hlx:(fw a.bN p 0 (a.ck.take i)).length<=19*i:=by
     have:=qE a.bN p (a.ck.take i) 0 λd hd=>sx d (xK hd)
     rw[DB]at this
     omega
    have Oo:(a.ck.take i).length=i:=by rw[DB];omega
    simp only[eE,cS,Vk,cj hc,cK,DT]
    rw[jf (λk=>(fw a.bN p 0 (a.ck.take i)++kQ a.bN p i c k,(k:Int))) (c.dG.toNat+1) (by omega) (by simp[kQ]) (r:=fw a.bN p 0 (a.ck.take (i+1)))]
    ·rfl
    ·intro k hk
     have eE:decide ((k:Int)<=c.dG)=true:=by simp;omega
     have hl:=uB a.bN p i c k
     have hm:(fw a.bN p 0 (a.ck.take i)++kQ a.bN p i c k).length+1<=bJ:=by rw[jW];unfold bJ;omega
     have hw:wr ((k:Int)+1)=((k+1:Nat):Int):=gH (by omega)
     simp only[eE,cS,f83_eq a c i k hc (by omega) (by omega) k2 i2,cK,hw,cu,dD hm,BB]
     cases decide (jt a.bN c k=p)with
     |true=>simp
     |false=>simp
    ·have eE:decide (((c.dG.toNat+1:Nat):Int)<=c.dG)=false:=by simp;omega
     simp only[eE,dj,cQ hc,uC,Oo,BU]
   ·have eE:decide (((a.ck.length+1:Nat):Int)<=(a.ck.length:Int))=false:=by simp;omega
    simp only[eE,dj,AL]
 ·have hd:decide (instS a≠0)=true:=by simpa using hi
  rw[hd,dM hi];rfl
theorem oq{l:List (List bP)}: ∀(n:Nat),l.length<=n->(∀p∈l,p.length<=400)->l.flatten.length<=400*n:=by
 induction l with
 |nil=>intro n _ _;simp
 |cons p l ih=>
  intro n hn h
  cases n with
  |zero=>simp at hn
  |succ n=>
   have h1:=h p (by simp)
   have h2:=ih n (by simpa using hn) λq hq=>h q (Jh _ hq)
   simp only[List.flatten_cons,jW];omega
theorem vA{l:List (List bP)}{k:Nat}{p:List bP}(h:l[k]? =some p):(l.take (k+1)).flatten=(l.take k).flatten++p:=by
 rw[cQ h,Y0];simp
theorem gX(l:List (List bP))(k:Nat):(l.take k).flatten.length<=l.flatten.length:=by
 conv=>rhs;rw[<-Qt k l,Y0,jW]
 omega
theorem f87_eq(l:List (List bP))(h6:l.length<=6)(h4: ∀p∈l,p.length<=400):f87 l=some l.flatten:=by
 have hs:bU l:=by simp only[bU];omega
 have pZ:=oq 6 h6 h4
 unfold f87
 rw[jf (λk=>(((l.take k).flatten.length:Int),(k:Int))) l.length (by omega) (by simp) (r:=(l.flatten.length:Int))]
 ·have Dj:f150 (l.flatten.length:Int)=some []:=by unfold f150;rw[dD (by omega)]
  rw[cK,Dj,cK]
  rw[jf (λk=>((l.take k).flatten,(k:Int))) l.length (by omega) (by simp) (r:=l.flatten)]
  ·rfl
  ·intro k hk
   have hg:l[k]? =some (l[k]'hk):=dH hk
   generalize l[k]'hk=p at hg
   have hf:=vA hg
   have ht:=gX l (k+1)
   rw[hf,jW]at ht
   simp only[cJ hg,cS,cj hg,cK,dI hs hg,hf]
   by_cases he:p=[]
   ·subst he;simp
   ·have hm:(l.take k).flatten.length+p.length<=bJ:=by unfold bJ;omega
    rw[show p.isEmpty=false from by simpa using he]
    simp only[dj,cu,dD hm,cK]
  ·simp
 ·intro k hk
  have hg:l[k]? =some (l[k]'hk):=dH hk
  generalize l[k]'hk=p at hg
  have hf:=vA hg
  have ht:=gX l (k+1)
  rw[hf,jW]at ht
  have hw:wr (((l.take k).flatten.length:Int)+(p.length:Int))=(((l.take k).flatten.length+p.length:Nat):Int):=by rw[sY (by omega) (by omega)];omega
  have Tn:decide ((((l.take k).flatten.length+p.length:Nat):Int)<0)=false:=mC (by omega)
  simp only[cJ hg,cS,cj hg,cK,hw,Tn,dj,dI hs hg,hf,jW]
 ·simp
def gg(l:List bP)(t:Int):Bool:=l.any λx=>decide (x.bW<=t)&&decide (t<x.dx)
def eW(all:List bP)(t:bP):List Int:=bif gg all t.dx then [t.bW]else [t.bW,t.dx]
theorem f88_eq(p:List bP)(t:bP)(hs:bU p):f88 p t=some (gg p t.dx):=by
 have h:f151 p t=some (gG (λx=>decide (x.bW<=t.dx)&&decide (t.dx<x.dx)) p):=by
  unfold f151
  rw[ey p (λx=>decide (x.bW<=t.dx)&&decide (t.dx<x.dx)) (λi _=>(i:Int)) hs]
  ·simp only[cK,fC,gG]
   cases p.findIdx? _<;>simp
  ·intro i y hy
   simp only[cJ hy,cS,cj hy,cK,f89]
   cases decide (y.bW<=t.dx)<;>cases decide (t.dx<y.dx)<;>rfl
  ·simp
 unfold f88
 rw[h]
 simp only[cK,gb]
 rfl
theorem EF(all:List bP)(t:bP):(eW all t).length<=2:=by unfold eW;cases gg all t.dx<;>simp
theorem ot(all:List bP): ∀(l:List bP),(l.flatMap (eW all)).length<=2*l.length
 | []=>by simp
 |t::l=>by
  have:=ot all l
  have:=EF all t
  simp only[FQ,jW,oG];omega
theorem f41_eq(l:List (List bP))(h6:l.length<=6)(h4: ∀p∈l,p.length<=400):f41 l=some ((l.flatten.flatMap (eW l.flatten)).foldl pn [0]):=by
 have pZ:=oq 6 h6 h4
 unfold f41
 rw[f87_eq l h6 h4]
 generalize l.flatten=all at pZ |-
 have hs:bU all:=by simp only[bU];omega
 simp only[cK]
 rw[jf (λk=>((0:Int)::(all.take k).flatMap (eW all),(k:Int))) all.length (by omega) (by simp) (r:=0::all.flatMap (eW all))]
 ·have hl:=ot all all
  have e1:f90 (0::all.flatMap (eW all))=some (kr (0::all.flatMap (eW all))):=by
   unfold f90;rw[dD (by simp only[oG];omega)]
  have Jz:=ou (0::all.flatMap (eW all))
  have e2:(kr (0::all.flatMap (eW all))).take (0::all.flatMap (eW all)).length=kr (0::all.flatMap (eW all)):=sG (by omega)
  have e3:f91 (kr (0::all.flatMap (eW all)))=some (Go.Lib.compact (kr (0::all.flatMap (eW all)))):=by
   unfold f91;rw[dD ⟨by rw[Jz];simp,by rw[Jz];simp only[oG];omega⟩]
  simp only[cK,e1,cu,dD Jz,e3,P0]
 ·intro k hk
  have hg:all[k]? =some (all[k]'hk):=dH hk
  generalize all[k]'hk=t at hg
  have hl:=ot all (all.take k)
  have Ym:(all.take k).length<=k:=by simp;omega
  have m1:((0:Int)::(all.take k).flatMap (eW all)).length+1<=bJ:=by simp only[oG];unfold bJ;omega
  have m2:(((0:Int)::(all.take k).flatMap (eW all))++[t.bW]).length+1<=bJ:=by simp only[jW,oG,Kz];unfold bJ;omega
  simp only[cJ hg,cS,cj hg,cK,cu,dD m1,f88_eq all t hs,dD m2,dI hs hg,cQ hg,XF,FQ,U6,xa,eW]
  cases gg all t.dx<;>simp
 ·simp
theorem EG{α:Type}(p:α->Bool)(l:List α):(match l.find? p with|some _=>true|none=>false)=l.any p:=by
 induction l with
 |nil=>rfl
 |cons x l ih=>
  rw[List.find?_cons,U4]
  cases p x with
  |true=>rfl
  |false=>simpa using ih
theorem f106_eq(l:List (List bP))(t:Int)(hl:bU l)(hp: ∀p∈l,bU p):f106 l t=some (!(gg l.flatten t)):=by
 unfold f106
 rw[ey (τ:=Bool) l (λp=>gg p t) (λ_ _=>false) hl (by
  intro i y hy
  have B7:=hp y (gz hy)
  simp only[cJ hy,cS]
  rw[ey (τ:=Int⊕(Unit⊕Bool)) y (λx=>decide (x.bW<=t)&&decide (t<x.dx)) (λ_ _=>.inr (.inr false)) B7 (by
   intro j x hx
   simp only[cj hy,cK,cJ hx,cS,cj hx]
   cases decide (x.bW<=t)<;>cases decide (t<x.dx)<;>rfl) (by simp[cj hy])]
  rw[li]
  have h:=EG (λx:bP=>decide (x.bW<=t)&&decide (t<x.dx)) y
  unfold gg
  rw[<-h]
  cases y.find? (λx:bP=>decide (x.bW<=t)&&decide (t<x.dx))<;>rfl) (by simp)]
 rw[li]
 have h:=EG (λp=>gg p t) l
 have h2:gg l.flatten t=l.any λp=>gg p t:=by unfold gg;rw[List.any_flatten]
 rw[h2,<-h]
 cases l.find? (λp=>gg p t)<;>rfl
theorem BC(n:Int): ∀{l:List Int},qF l->l=l.filter (λx=>decide (x<n))++l.filter λx=>!decide (x<n)
 | [],_=>rfl
 |x::l,h=>by
  obtain⟨h1,h2⟩:=Dr.1 h
  by_cases hx:x<n
  ·rw[Y1 (by simpa using hx),Y2 (by simpa using hx),wI,<-BC n h2]
  ·have he:l.filter (λx=>decide (x<n))=[]:=XG.2 λy hy=>by
    have:=h1 y hy
    simp;omega
   rw[Y2 (by simpa using hx),Y1 (by simpa using hx),he,rN]
   congr 1
   exact(List.filter_eq_self.2 λy hy=>by have:=h1 y hy;simp;omega).symm
def BD(l:List Int)(n:Int):Int->Option (Int⊕Int):=λ(wY:Int)=>((bif (decide (0<wY))then((ix l (wr (wY-1))).bind λy2=>some (decide (n<=y2)))else(some false)):Option Bool).bind λ(WB:Bool)=>bif WB then(some (.inl (wr (wY-1))))else(some (.inr wY))
theorem BE(A B:List Int)(n:Int)(hA: ∀x∈A,x<n)(hB: ∀x∈B,n<=x)(hs:bU (A++B)): ∀(k mA:Nat),k<=B.length->k<mA->bZ (BD (A++B) n) mA ((A.length+k:Nat):Int)=some (A.length:Int)
 |_,0,_,h=>by omega
 |0,mA+1,_,_=>by
  by_cases h0:A.length=0
  ·have hd:decide ((0:Int)<((A.length+0:Nat):Int))=false:=mC (by omega)
   simp only[bZ,BD,hd,dj,cK]
   rfl
  ·simp only[bU,jW]at hs
   have hd:decide ((0:Int)<((A.length+0:Nat):Int))=true:=xM (by omega)
   have hw:wr (((A.length+0:Nat):Int)-1)=((A.length-1:Nat):Int):=by rw[sY (by omega) (by omega)];omega
   have hg:(A++B)[A.length-1]? =some (A[A.length-1]'(by omega)):=by rw[np (by omega),dH]
   have ha:=hA _ (va (l:=A) (n:=A.length-1) (by omega))
   have WC:decide (n<=A[A.length-1]'(by omega))=false:=mC (by omega)
   simp only[bZ,BD,hd,cS,hw,cj hg,cK,WC,dj]
   rfl
 |k+1,mA+1,hk,hf=>by
  have nN:=hs
  simp only[bU,jW]at nN
  have hd:decide ((0:Int)<((A.length+(k+1):Nat):Int))=true:=xM (by omega)
  have hw:wr (((A.length+(k+1):Nat):Int)-1)=((A.length+k:Nat):Int):=by rw[sY (by omega) (by omega)];omega
  have hg:(A++B)[A.length+k]? =some (B[k]'(by omega)):=by
   rw[pG (by omega),Nat.add_sub_cancel_left,dH]
  have hb:=hB _ (va (l:=B) (n:=k) (by omega))
  have WC:decide (n<=B[k]'(by omega))=true:=xM hb
  simp only[bZ,BD,hd,cS,hw,cj hg,cK,WC]
  exact BE A B n hA hB hs k mA (by omega) (by omega)
theorem EH(A B:List Int)(n:Int)(d:Nat)(hd:d=A.length)(Y:List Int)(hY:Y=(A++B)++[0]):
  (Oy Y (d+1) (Y.length-(d+1)) ((Y.drop d).take (Y.length-d))).set d n=A++n::B:=by
 unfold Oy
 subst hd
 rw[DC]at hY
 have hl:Y.length=A.length+(B.length+1):=by rw[hY];simp
 have h1:Y.drop A.length=B++[0]:=by rw[hY,List.drop_left]
 have h2:Y.take (A.length+1)=A++(B++[0]).take 1:=by rw[hY,List.take_length_add_append]
 have h3:(B++[0]).take (Y.length-A.length)=B++[0]:=sG (by simp;omega)
 have h4:min (B++[(0:Int)]).length (Y.length-(A.length+1))=B.length:=by simp;omega
 have h5:(B++[(0:Int)]).take B.length=B:=List.take_left
 have h6:Y.drop (A.length+1+B.length)=[]:=List.drop_of_length_le (by omega)
 rw[h1,h3,h4,h5,h6,h2,xa]
 obtain⟨x,hx⟩: ∃x,(B++[(0:Int)]).take 1=[x]:=by
  cases B with
  |nil=>exact⟨0,rfl⟩
  |cons b B=>exact⟨b,rfl⟩
 rw[hx,DC,List.set_append_right (h:=eF _)]
 simp
theorem f105_eq(l:List Int)(n:Int)(ha:qF l)(hs:l.length<=100000):f105 l n=some (pn l n):=by
 have z8:=BC n ha
 have Yn: ∀x∈l.filter (λx=>decide (x<n)),x<n:=λx hx=>by simpa using(lD.1 hx).2
 have hBm: ∀x∈l.filter (λx=>!decide (x<n)),n<=x:=λx hx=>by have:=(lD.1 hx).2;simp at this;exact this
 have hBa:qF (l.filter (λx=>!decide (x<n))):=ha.filter _
 have aak:pn l n=bif l.any (λx=>decide (x=n))then l else l.filter (λx=>decide (x<n))++n::l.filter λx=>!decide (x<n):=rfl
 rw[aak]
 generalize l.filter (λx=>decide (x<n))=A at z8 Yn
 generalize l.filter (λx=>!decide (x<n))=B at z8 hBm hBa
 have dA:l.length=A.length+B.length:=by rw[z8,jW]
 have AA:bU (A++B):=by simp only[bU,jW];omega
 have Nh:=BE A B n Yn hBm AA B.length cz (eF _) (by unfold cz;omega)
 unfold f105
 rw[<-z8]at Nh
 have hlc:((A.length+B.length:Nat):Int)=(l.length:Int):=by rw[dA]
 rw[hlc]at Nh
 have Rm:bZ (σ:=Int) (τ:=Int) (BD l n) cz (l.length:Int)=some (A.length:Int):=Nh
 unfold BD at Rm
 rw[Rm,cK]
 cases hB:B with
 |nil=>
  subst hB
  have hd:decide ((A.length:Int)<(l.length:Int))=false:=mC (by simp at dA;omega)
  have GP:l.any (λx=>decide (x=n))=false:=by
   rw[z8,xa]
   exact KA.2 λx hx=>by have:=Yn x hx;simp;omega
  rw[GP,hd]
  simp only[dj,cK]
  have m1:l.length+1<=bJ:=by unfold bJ;omega
  have hw:wr ((A.length:Int)+1)=((A.length+1:Nat):Int):=gH (by omega)
  have An:(l++[(0:Int)]).length=A.length+([]:List Int).length+1:=by rw[jW,dA];rfl
  simp only[hw,oH,cu,dD m1]
  have hq:=EH A [] n A.length rfl (l++[0]) (by rw[z8])
  have P2:=fA List.length hq
  rw[List.length_set]at P2
  rw[dD (by omega),dD (by rw[An];omega),dD (by omega),dD (by rw[An];omega),dD (by rw[An];omega),dD (by rw[An];omega),dD (by rw[P2,An];simp <;>omega)]
  obtain⟨v,hv⟩: ∃v,(Oy (l++[(0:Int)]) (A.length+1) ((l++[0]).length-(A.length+1)) (((l++[0]).drop A.length).take ((l++[0]).length-A.length)))[A.length]? =some v:=⟨_,dH (by rw[P2];simp)⟩
  rw[cj hv,cK,hq]
 |cons b B'=>
  subst hB
  have hd:decide ((A.length:Int)<(l.length:Int))=true:=xM (by simp at dA;omega)
  have hg:l[A.length]? =some b:=by rw[z8,pG (eF _)];simp
  rw[hd,cS,cj hg,cK,cK]
  by_cases he:b=n
  ·have GP:l.any (λx=>decide (x=n))=true:=vV.2 ⟨b,gz hg,by simpa using he⟩
   rw[xM he,GP];rfl
  ·have GP:l.any (λx=>decide (x=n))=false:=by
    rw[z8]
    refine KA.2 λx hx=>?_
    rcases lr.1 hx with h|h
    ·have:=Yn x h;simp;omega
    ·have hb:=hBm b (by simp)
     rcases mU.1 h with rfl|h
     ·simpa using he
     ·have:=(Dr.1 hBa).1 x h;simp;omega
   rw[GP,mC he]
   simp only[dj]
   have m1:l.length+1<=bJ:=by unfold bJ;omega
   have hw:wr ((A.length:Int)+1)=((A.length+1:Nat):Int):=gH (by omega)
   have An:(l++[(0:Int)]).length=A.length+(b::B').length+1:=by rw[jW,dA];rfl
   simp only[hw,oH,cu,dD m1]
   have hq:=EH A (b::B') n A.length rfl (l++[0]) (by rw[z8])
   have P2:=fA List.length hq
   rw[List.length_set]at P2
   rw[dD (by omega),dD (by rw[An];omega),dD (by omega),dD (by rw[An];omega),dD (by rw[An];omega),dD (by rw[An];omega),dD (by rw[P2,An];simp <;>omega)]
   obtain⟨v,hv⟩: ∃v,(Oy (l++[(0:Int)]) (A.length+1) ((l++[0]).length-(A.length+1)) (((l++[0]).drop A.length).take ((l++[0]).length-A.length)))[A.length]? =some v:=⟨_,dH (by rw[P2];simp)⟩
   rw[cj hv,cK,hq]
def sd(all L:List bP):List Int:=(L.flatMap (eW all)).foldl pn [0]
theorem vB: ∀(l a:List Int),(l.foldl pn a).length<=a.length+l.length
 | [],a=>by simp
 |x::l,a=>by
  have h1:=vB l (pn a x)
  have h2:=EI (l:=a) x
  simp only[RP,oG];omega
theorem IB(all L:List bP)(hL:L.length<=2500):qF (sd all L)/\(sd all L).length<=6000:=by
 refine⟨(ow _ [0] (by simp[qF])).1,?_⟩
 have h1:=vB (L.flatMap (eW all)) [0]
 have h2:=ot all L
 simp only[oG,Kz]at h1
 unfold sd;omega
theorem Kd(all L:List bP)(t:bP):sd all (L++[t])=(eW all t).foldl pn (sd all L):=by
 unfold sd
 rw[XF,Y3];simp
theorem f53_eq(l:List (List bP))(h6:l.length<=6)(h4: ∀p∈l,p.length<=400):f53 l=some (sd l.flatten l.flatten):=by
 have hs:bU l:=by simp only[bU];omega
 have CQ: ∀p∈l,bU p:=λp hp=>by have:=h4 p hp;simp only[bU];omega
 have pZ:=oq 6 h6 h4
 have h93:=λt=>f106_eq l t hs CQ
 unfold f53
 generalize iP:l.flatten=all at h93 pZ |-
 rw[jf (λk=>(sd all (l.take k).flatten,(k:Int))) l.length (by omega) (by simp[sd]) (r:=sd all all)]
 ·rfl
 ·intro k hk
  have hg:l[k]? =some (l[k]'hk):=dH hk
  generalize l[k]'hk=p at hg
  have Rn:=h4 p (gz hg)
  have z8:=CQ p (gz hg)
  have hf:=vA hg
  have ht:=gX l (k+1)
  rw[hf,jW,iP]at ht
  simp only[cJ hg,cS]
  rw[jf (λj=>(sd all ((l.take k).flatten++p.take j),(j:Int))) p.length (by omega) (by simp) (r:=sd all ((l.take k).flatten++p))]
  ·simp only[cK,dI hs hg,hf]
  ·intro j hj
   have WD:p[j]? =some (p[j]'hj):=dH hj
   generalize p[j]'hj=t at WD
   have hlj:((l.take k).flatten++p.take j).length<=2400:=by rw[jW,DB];omega
   obtain⟨a1,a2⟩:=IB all _ (vU hlj (by omega))
   have Pg:sd all ((l.take k).flatten++p.take (j+1))=(eW all t).foldl pn (sd all ((l.take k).flatten++p.take j)):=by
    rw[cQ WD,<-DC,Kd]
   rw[Pg]
   generalize sd all ((l.take k).flatten++p.take j)=acc at a1 a2 |-
   have b1:=(IC a1 t.bW).1
   have b2:=EI (l:=acc) t.bW
   simp only[cj hg,cK,cJ WD,cS,cj WD,f105_eq acc t.bW a1 (by omega),h93,dI z8 WD]
   unfold eW
   cases gg all t.dx with
   |true=>simp
   |false=>simp[f105_eq (pn acc t.bW) t.dx b1 (by omega)]
  ·simp[cj hg]
 ·simp[iP]
def gJ:List cN:=[⟨1,true,false⟩,⟨1,false,false⟩,⟨2,true,false⟩,⟨1,false,true⟩,⟨2,false,false⟩,⟨3,true,false⟩,⟨2,false,true⟩,⟨3,false,false⟩,⟨4,true,false⟩,⟨3,false,true⟩,⟨4,false,false⟩,⟨5,true,false⟩,⟨4,false,true⟩,⟨5,false,false⟩,⟨6,true,false⟩,⟨5,false,true⟩,⟨6,false,false⟩,⟨7,true,false⟩,⟨6,false,true⟩,⟨7,false,false⟩,⟨7,false,true⟩]
def tk(s:cN):Nat:=((f93 s).getD 0).toNat
theorem f92_eq:f92=some gJ:=by kernel_rfl
theorem uD:gJ.length=21:=rfl
theorem jM: ∀s∈gJ,f93 s=some (tk s:Int)/\1<=tk s/\tk s<=768:=by
 have h:(gJ.all λs=>decide (f93 s=some (tk s:Int))&&(decide (1<=tk s)&&decide (tk s<=768)))=true:=by decide
 intro s hs
 have:=pT.1 h s hs
 simpa using this
structure AB (T:List Int) (n k:Nat):Prop where
 len:T.length=n+1
 z:T[0]? =some 0
 lo: ∀m,m<=k-> ∀e,T[m]? =some e-> -1<=e/\e<=(m:Int)/\(0<m->e≠0)
 p2: ∀m,0<m->m<=k-> ∀e,T[m]? =some e->0<=e-> ∃s∈gJ,tk s<=m/\T[m-tk s]? =some (e-1)
 p3: ∀m,m<=k-> ∀s∈gJ,tk s<=m-> ∀e e',T[m]? =some e->T[m-tk s]? =some e'->0<=e'->0<=e/\e<=e'+1
theorem AB.step{T:List Int}{n k:Nat}(h:AB T n k)(hk:k<n)(hn:n<=4608): ∃r,bZ (σ:=(List Int×Int)) (τ:=(List Int)) (λ((zd,Ni):(List Int×Int))=>bif (decide (Ni<(gJ.length:Int)))then((((ix gJ Ni).bind λy9=>(f93 y9).bind λr10=>((bif (decide (0<=(wr (((k+1:Nat):Int)-r10))))then((ix zd (wr (((k+1:Nat):Int)-r10))).bind λP3=>bif (decide (0<=P3))then((ix zd ((k+1:Nat):Int)).bind λKL=>bif (decide (KL<0))then(some true)else(some (decide ((wr (P3+1))<KL))))else(some false))else(some false)):Option Bool).bind λ(WE:Bool)=>bif WE then((ix zd (wr (((k+1:Nat):Int)-r10))).bind λy17=>(ix zd ((k+1:Nat):Int)).bind λy18=>some (zd.set (((k+1:Nat):Int)).toNat (wr (y17+1))))else(some zd)):Option (List Int)).bind λ(WG:(List Int))=>some (.inl (WG,(wr (Ni+1)))))else(some (.inr zd))) cz ((T.set (((k+1:Nat):Int)).toNat (-1)),0)=some r/\AB r n (k+1):=by
 have hl:=h.len
 refine j7 (λj(s:List Int×Int)=>s.2=(j:Int)/\s.1.length=n+1/\(∀m,m≠k+1->s.1[m]? =T[m]?)/\ ∃e,s.1[k+1]? =some e/\ -1<=e/\e<=((k+1:Nat):Int)/\e≠0/\
   (0<=e-> ∃s∈gJ,tk s<=k+1/\T[k+1-tk s]? =some (e-1))/\ ∀s∈gJ.take j,tk s<=k+1-> ∀e',T[k+1-tk s]? =some e'->0<=e'->0<=e/\e<=e'+1) _ gJ.length (by rw[uD];omega) ?_ ?_ ?_
 ·refine⟨rfl,by simp[hl],λm hm=>?_,-1,?_,by omega,by omega,by omega,λh=>by omega,by simp⟩
  ·show(T.set (((k+1:Nat):Int)).toNat (-1))[m]? =_
   rw[oH,FU (by omega)]
  ·show(T.set (((k+1:Nat):Int)).toNat (-1))[k+1]? =_
   rw[oH,Xu];simp;omega
 ·rintro j ⟨q,s2⟩ hj ⟨e0,hq,s9,e,he,h1,h2,h3,h4,h5⟩
  simp only at e0 hq s9 he
  subst e0
  have x1:gJ[j]? =some (gJ[j]'hj):=dH _
  generalize gJ[j]'hj=s at x1
  have hm:=gz x1
  obtain⟨t1,t2,t3⟩:=jM s hm
  have AA:bU gJ:=by simp only[bU,uD];omega
  have w0:wr (((k+1:Nat):Int)-(tk s:Int))=((k+1:Nat):Int)-(tk s:Int):=iL (by omega) (by omega)
  simp only[cJ x1,cS,cj x1,t1,cK,dI AA x1,w0]
  have keep:(∀e',tk s<=k+1->T[k+1-tk s]? =some e'->0<=e'->0<=e/\e<=e'+1)-> ∀s'∈gJ.take (j+1),tk s'<=k+1-> ∀e',T[k+1-tk s']? =some e'->0<=e'->0<=e/\e<=e'+1:=λhs s' nN ht e' vC h0=>by
   rw[cQ x1,lr]at nN
   rcases nN with nN|nN
   ·exact h5 s' nN ht e' vC h0
   ·simp at nN;subst nN;exact hs e' ht vC h0
  by_cases c1:tk s<=k+1
  ·have c2:(0:Int)<=((k+1:Nat):Int)-(tk s:Int):=by omega
   have eV:k+1-tk s≠k+1:=by omega
   have y0:T[k+1-tk s]? =some (T[k+1-tk s]'(by omega)):=dH _
   generalize T[k+1-tk s]'(by omega)=y at y0
   have y1:q[k+1-tk s]? =some y:=by rw[s9 _ eV];exact y0
   have i1:ix q (((k+1:Nat):Int)-(tk s:Int))=some y:=Ww (k+1-tk s) (by omega) y1
   have hy:=h.lo (k+1-tk s) (by omega) y y0
   simp only[c2,gp,cS,i1,cK]
   by_cases c3:0<=y
   ·have w1:wr (y+1)=y+1:=iL (by omega) (by omega)
    simp only[c3,gp,cS,cj he,cK,w1]
    have wT: ∀e2,e2=y+1->(e<0\/e2<e)-> ∃s',some (Sum.inl (q.set (k+1) e2,((j+1:Nat):Int)):(List Int×Int)⊕List Int)=some (.inl s')/\s'.2=((j+1:Nat):Int)/\s'.1.length=n+1/\(∀m,m≠k+1->s'.1[m]? =T[m]?)/\ ∃e,s'.1[k+1]? =some e/\ -1<=e/\e<=((k+1:Nat):Int)/\e≠0/\
      (0<=e-> ∃s∈gJ,tk s<=k+1/\T[k+1-tk s]? =some (e-1))/\ ∀s∈gJ.take (j+1),tk s<=k+1-> ∀e',T[k+1-tk s]? =some e'->0<=e'->0<=e/\e<=e'+1:=λe2 QL gq=>by
     subst QL
     refine⟨_,rfl,rfl,by simpa using hq,λm hm=>?_,y+1,?_,by omega,by omega,by omega,λ_=>⟨s,hm,c1,by rw[y0];congr 1;omega⟩,λs' nN ht e' vC h0=>?_⟩
     ·show(q.set (k+1) (y+1))[m]? =_
      rw[FU (by omega)];exact s9 m hm
     ·show(q.set (k+1) (y+1))[k+1]? =_
      rw[Xu];simp;omega
     ·rw[cQ x1,lr]at nN
      rcases nN with nN|nN
      ·have:=h5 s' nN ht e' vC h0
       omega
      ·simp at nN;subst nN
       rw[y0]at vC;cases vC
       omega
    have iq:ix q (((k+1:Nat):Int)-(tk s:Int))=some y:=i1
    by_cases c4:e<0
    ·simp only[c4,gp,cS,cK,i1,cj he,oH,w1]
     exact .inl (wT (y+1) rfl (.inl c4))
    ·by_cases c5:y+1<e
     ·simp only[c4,c5,gp,dX,cS,dj,cK,i1,cj he,oH,w1]
      exact .inl (wT (y+1) rfl (.inr c5))
     ·simp only[c4,c5,dX,dj,cK]
      refine .inl ⟨_,rfl,rfl,hq,s9,e,he,h1,h2,h3,h4,keep λe' _ vC _=>?_⟩
      rw[y0]at vC;cases vC
      omega
   ·simp only[c3,dX,dj,cK]
    refine .inl ⟨_,rfl,rfl,hq,s9,e,he,h1,h2,h3,h4,keep λe' _ vC h0=>?_⟩
    rw[y0]at vC;cases vC
    exact absurd h0 c3
  ·have c2: ¬((0:Int)<=((k+1:Nat):Int)-(tk s:Int)):=by omega
   simp only[c2,dX,dj,cK]
   exact .inl ⟨_,rfl,rfl,hq,s9,e,he,h1,h2,h3,h4,keep λe' ht _ _=>absurd ht c1⟩
 ·rintro⟨q,s2⟩ ⟨e0,hq,s9,e,he,h1,h2,h3,h4,h5⟩
  simp only at e0 hq s9 he
  subst e0
  simp only[ky,dX,dj]
  rw[AL]at h5
  refine⟨_,rfl,hq,by rw[s9 0 (by omega)];exact h.z,λm hm e' vC=>?_,λm h0 hm e' vC hz=>?_,λm hm s hs ht e1 e2 QJ QL h0=>?_⟩
  ·by_cases Ox:m=k+1
   ·subst Ox
    rw[he]at vC;cases vC
    exact⟨h1,h2,λ_=>h3⟩
   ·rw[s9 m Ox]at vC
    exact h.lo m (by omega) e' vC
  ·by_cases Ox:m=k+1
   ·subst Ox
    rw[he]at vC;cases vC
    obtain⟨s,a,b,c⟩:=h4 hz
    have:=(jM s a).2.1
    exact⟨s,a,b,by rw[s9 _ (by omega)];exact c⟩
   ·rw[s9 m Ox]at vC
    obtain⟨s,a,b,c⟩:=h.p2 m h0 (by omega) e' vC hz
    have:=(jM s a).2.1
    exact⟨s,a,b,by rw[s9 _ (by omega)];exact c⟩
  ·have:=(jM s hs).2.1
   rw[s9 _ (by omega)]at QL
   by_cases Ox:m=k+1
   ·subst Ox
    rw[he]at QJ;cases QJ
    exact h5 s hs ht e2 QL h0
   ·rw[s9 m Ox]at QJ
    exact h.p3 m (by omega) s hs ht e1 e2 QJ QL h0
def kR(l:List cN):Nat:=l.foldr (λs n=>tk s+n) 0
theorem Ke{a b:List cN}(h:a.Perm b):kR a=kR b:=by
 induction h with
 |nil=>rfl
 |cons x _ ih=>simp only[kR,List.foldr_cons]at *;omega
 |swap x y l=>simp only[kR,List.foldr_cons];omega
 |trans _ _ h1 h2=>omega
inductive nE (T:List Int):Nat->Nat->Prop
 |z (a:Nat):nE T 0 a
 |k {m a:Nat} {s:cN} {e:Int} (hs:s∈gJ) (h1:tk s<=a) (h2:tk s<=m) (he:T[m]? =some e) (vC:T[m-tk s]? =some (e-1)) (hr:nE T (m-tk s) (tk s)):nE T m a
theorem Nj{T:List Int}{n:Nat}(h:AB T n n): ∀(L:List cN)(m:Nat),(∀s∈L,s∈gJ)->kR L=m->m<=n-> ∃e,T[m]? =some e/\0<=e/\e<=(L.length:Int)
 | [],m,_,hm,_=>by
  simp[kR]at hm
  subst hm
  exact⟨0,h.z,by omega,by simp⟩
 |s::L,m,hL,hm,hn=>by
  have hs:=hL s (by simp)
  have hm:tk s+kR L=m:=hm
  obtain⟨e',h1,h2,h3⟩:=Nj h L (m-tk s) (λx hx=>hL x (by simp[hx])) (by omega) (by omega)
  have dA:=h.len
  have x1:T[m]? =some (T[m]'(by omega)):=dH _
  obtain⟨a,b⟩:=h.p3 m hn s hs (by omega) _ e' x1 h1 h2
  exact⟨_,x1,a,by simp;omega⟩
theorem Nk{T:List Int}{n:Nat}(h:AB T n n): ∀(d m:Nat),m<=d->m<=n-> ∀e,T[m]? =some e->0<=e-> ∃L:List cN,(∀s∈L,s∈gJ)/\kR L=m/\(L.length:Int)=e
 |d,0,_,_,e,he,h0=>by
  rw[h.z]at he;cases he
  exact⟨[],by simp,rfl,by simp⟩
 |0,m+1,hd,_,_,_,_=>by omega
 |d+1,m+1,hd,hn,e,he,h0=>by
  obtain⟨s,h1,h2,h3⟩:=h.p2 (m+1) (by omega) hn e he h0
  have hs:=(jM s h1).2.1
  have eV:=(h.lo (m+1) hn e he).2.2 (by omega)
  obtain⟨L,a,b,c⟩:=Nk h d (m+1-tk s) (by omega) (by omega) (e-1) h3 (by omega)
  refine⟨s::L,λx hx=>?_,?_,by simp;omega⟩
  ·simp at hx;rcases hx with rfl|hx
   ·exact h1
   ·exact a x hx
  ·show tk s+kR L=m+1;omega
theorem EJ{T:List Int}{n:Nat}(h:AB T n n): ∀(L:List cN)(m a:Nat)(e:Int),(∀s∈L,s∈gJ/\tk s<=a)->kR L=m->m<=n->T[m]? =some e->(L.length:Int)=e->(L.Pairwise λx y=>tk y<=tk x)->nE T m a
 | [],m,a,e,_,hm,_,_,_,_=>by simp[kR]at hm;subst hm;exact .z a
 |s::L,m,a,e,hL,hm,hn,he,hl,hp=>by
  have hm:tk s+kR L=m:=hm
  obtain⟨e',h1,h2,h3⟩:=Nj h L (m-tk s) (λx hx=>(hL x (by simp[hx])).1) (by omega) (by omega)
  obtain⟨_,b⟩:=h.p3 m hn s (hL s (by simp)).1 (by omega) e e' he h1 h2
  have vC:e'=e-1:=by simp at hl;omega
  subst vC
  rw[Dr]at hp
  exact .k (hL s (by simp)).1 (hL s (by simp)).2 (by omega) he h1 (EJ h L (m-tk s) (tk s) (e-1) (λx hx=>⟨(hL x (by simp[hx])).1,hp.1 x hx⟩) (by omega) (by omega) h1 (by simp at hl;omega) hp.2)
theorem EK{T:List Int}{n:Nat}(h:AB T n n){e:Int}(he:T[n]? =some e)(h0:0<=e):nE T n 768:=by
 obtain⟨L,h1,h2,h3⟩:=Nk h n n (eF _) (eF _) e he h0
 have hp:=Y4 L λx y=>decide (tk y<=tk x)
 refine EJ h (L.mergeSort λx y=>decide (tk y<=tk x)) n 768 e (λs hs=>?_) (by rw[Ke hp];exact h2) (eF _) he (by rw[hp.length_eq];exact h3) ?_
 ·have:=h1 s (hp.mem_iff.1 hs)
  exact⟨this,(jM s this).2.2⟩
 ·have:=Y5 (le:=λx y=>decide (tk y<=tk x)) (λa b c h1 h2=>by simp at *;omega) (λa b=>by simp;omega) L
  exact this.imp λh=>by simpa using h
theorem f94_ex(T:List Int)(n:Nat)(hT:AB T n n)(hn:n<=4608): ∀(fu m a:Nat)(l:List cN),m<fu->m<=n->l.length+m<=10000->
  ∃r,f94r fu (m:Int) (a:Int) gJ T l=some r/\((r.1=true/\ ∃q,r.2=l++q/\kR q=m/\ ∀s∈q,s∈gJ)\/(r.1=false/\r.2=l))/\(nE T m a->r.1=true)
 |0,m,a,l,h,_,_=>by omega
 |fu+1,m,a,l,hf,hm,hl=>by
  have dA:=hT.len
  unfold f94r
  by_cases h0:m=0
  ·subst h0
   simp only[gp,cS]
   exact⟨_,rfl,.inl ⟨rfl,[],by simp,rfl,by simp⟩,λ_=>rfl⟩
  ·have c0: ¬((m:Int)=0):=by omega
   simp only[c0,dX,dj]
   have key:=j7 (body:=λ((ID,Nl):(List cN×Int))=>bif (decide (Nl<(gJ.length:Int)))then((((ix gJ Nl).bind λy3=>(f93 y3).bind λr4=>((bif (decide ((a:Int)<r4))then(some true)else(bif (decide ((m:Int)<r4))then(some true)else((ix T (wr ((m:Int)-r4))).bind λy7=>(ix T (m:Int)).bind λy8=>some (decide (y7≠(wr (y8-1))))))):Option Bool).bind λ(WH:Bool)=>bif WH then(some (.inl ID))else(cu (ID.length+1<=bJ)<|(f94r fu (wr ((m:Int)-r4)) r4 gJ T (ID++([y3]:List cN))).bind λGQ=>bif GQ.1 then(some (.inr (.inr (.inr (true,GQ.2)))))else(cu (0<=(wr ((GQ.2.length:Int)-1)))<|cu ((wr ((GQ.2.length:Int)-1)).toNat<=GQ.2.length)<|cu ((wr ((GQ.2.length:Int)-1)).toNat<=GQ.2.length)<|some (.inl (GQ.2.take (wr ((GQ.2.length:Int)-1)).toNat))))):Option ((List cN)⊕((List cN×Int)⊕((List cN)⊕(Bool×List cN))))).bind (Sum.elim (λ(WI:(List cN))=>some (.inl (WI,(wr (Nl+1))))) some))else(some (.inr (.inl ID))))
    (λj(s:List cN×Int)=>s.2=(j:Int)/\s.1=l/\ ∀s∈gJ.take j,¬(tk s<=a/\tk s<=m/\ ∃e,T[m]? =some e/\T[m-tk s]? =some (e-1)/\nE T (m-tk s) (tk s)))
    (λo=>match o with
     |.inl q=>q=l/\ ∀s∈gJ,¬(tk s<=a/\tk s<=m/\ ∃e,T[m]? =some e/\T[m-tk s]? =some (e-1)/\nE T (m-tk s) (tk s))
     |.inr r=>r.1=true/\ ∃q,r.2=l++q/\kR q=m/\ ∀s∈q,s∈gJ) gJ.length (s0:=(l,0)) (by rw[uD];omega) ⟨rfl,rfl,by simp⟩ ?_ ?_
   ·obtain⟨o,k1,k2⟩:=key
    simp only[k1,cK]
    cases o with
    |inl q=>
     refine⟨_,rfl,.inr ⟨rfl,k2.1⟩,λhc=>?_⟩
     cases hc with
     |z=>omega
     |k hs h1 h2 he vC hr=>exact absurd ⟨h1,h2,_,he,vC,hr⟩ (k2.2 _ hs)
    |inr r=>exact⟨r,rfl,.inl k2,λ_=>k2.1⟩
   ·rintro j ⟨q,s2⟩ hj ⟨e0,e1,rQ⟩
    simp only at e0 e1
    subst e0;subst e1
    have x1:gJ[j]? =some (gJ[j]'hj):=dH _
    generalize gJ[j]'hj=s at x1
    have hs:=gz x1
    obtain⟨t1,t2,t3⟩:=jM s hs
    have AA:bU gJ:=by simp only[bU,uD];omega
    simp only[cJ x1,cS,cj x1,t1,cK,dI AA x1]
    have skip:(¬(tk s<=a/\tk s<=m/\ ∃e,T[m]? =some e/\T[m-tk s]? =some (e-1)/\nE T (m-tk s) (tk s)))-> ∀s'∈gJ.take (j+1),¬(tk s'<=a/\tk s'<=m/\ ∃e,T[m]? =some e/\T[m-tk s']? =some (e-1)/\nE T (m-tk s') (tk s')):=λhq s' nN=>by
     rw[cQ x1,lr]at nN
     rcases nN with nN|nN
     ·exact rQ s' nN
     ·simp at nN;subst nN;exact hq
    by_cases c1:(a:Int)<(tk s:Int)
    ·simp only[c1,gp,cS,cK,Ac]
     exact .inl ⟨_,rfl,rfl,rfl,skip λh=>by omega⟩
    by_cases c2:(m:Int)<(tk s:Int)
    ·simp only[c1,c2,gp,dX,cS,dj,cK,Ac]
     exact .inl ⟨_,rfl,rfl,rfl,skip λh=>by omega⟩
    have w0:wr ((m:Int)-(tk s:Int))=((m-tk s:Nat):Int):=by rw[iL (by omega) (by omega)];omega
    have y1:T[m-tk s]? =some (T[m-tk s]'(by omega)):=dH _
    have y2:T[m]? =some (T[m]'(by omega)):=dH _
    generalize T[m-tk s]'(by omega)=y at y1
    generalize T[m]'(by omega)=z at y2
    have hz:=hT.lo m hm z y2
    have w1:wr (z-1)=z-1:=iL (by omega) (by omega)
    simp only[c1,c2,dX,dj,w0,cj y1,cj y2,cK,w1]
    by_cases c3:y=z-1
    ·have m1:q.length+1<=bJ:=by unfold bJ;omega
     subst c3
     obtain⟨r,k1,k2,k3⟩:=f94_ex T n hT hn fu (m-tk s) (tk s) (q++[s]) (by omega) (by omega) (by simp;omega)
     simp only[pU,tt,dX,dj,dg m1,k1,cK]
     rcases k2 with⟨r1,q',r2,r3,r4⟩|⟨r1,r2⟩
     ·simp only[r1,cS,cK,Sum.elim_inr]
      refine .inr ⟨_,rfl,rfl,s::q',by rw[r2];simp,?_,λx hx=>?_⟩
      ·show tk s+kR q'=m;omega
      ·simp at hx;rcases hx with rfl|hx
       ·exact hs
       ·exact r4 x hx
     ·have w2:wr ((r.2.length:Int)-1)=(q.length:Int):=by rw[r2];simp;rw[iL (by omega) (by omega)]
      have n1:(0:Int)<=(q.length:Int):=by omega
      have n2:q.length<=r.2.length:=by rw[r2];simp
      simp only[r1,dj,w2,dg n1,oH,dg n2,cK,Ac]
      refine .inl ⟨_,rfl,rfl,by rw[r2];simp,skip λh=>?_⟩
      obtain⟨_,_,e,g1,g2,g3⟩:=h
      have:=k3 g3
      rw[r1]at this;cases this
    ·simp only[pU,c3,Hw,gp,cS,cK,Ac]
     refine .inl ⟨_,rfl,rfl,rfl,skip λh=>?_⟩
     obtain⟨_,_,e,g1,g2,g3⟩:=h
     rw[y2]at g1;rw[y1]at g2
     cases g1;cases g2
     exact c3 rfl
   ·rintro⟨q,s2⟩ ⟨e0,e1,rQ⟩
    simp only at e0 e1
    subst e0;subst e1
    simp only[ky,dX,dj]
    exact⟨_,rfl,rfl,λs hs=>rQ s (by simpa using hs)⟩
theorem f42_ex(n:Int): ∃r,f42 n=some r/\(r.2=0->0<=n/\n<=4608/\(kR r.1:Int)=n/\ ∀s∈r.1,s∈gJ):=by
 unfold f42
 by_cases h1:n<0
 ·simp only[h1,gp,cS,cK]
  exact⟨_,rfl,λh=>by cases h⟩
 by_cases h2:4608<n
 ·simp only[h1,h2,gp,dX,cS,dj,cK]
  exact⟨_,rfl,λh=>by cases h⟩
 obtain⟨m,rfl⟩: ∃m:Nat,n=(m:Int):=⟨n.toNat,by omega⟩
 have w1:wr ((m:Int)+1)=((m+1:Nat):Int):=gH (by omega)
 have n1:(0:Int)<=((m+1:Nat):Int):=by omega
 have n2:((m+1:Nat):Int)<=(bJ:Int):=by unfold bJ;omega
 simp only[h1,h2,dX,dj,f92_eq,cK,w1,dg n1,dg n2,oH]
 refine eK (λk(s:List Int×Int)=>s.2=((k+1:Nat):Int)/\AB s.1 m k) (λT=>AB T m m) m (by omega) ⟨rfl,?_⟩ ?_ ?_ ?_
 ·refine⟨by simp,by simp,λk hk e he=>?_,λk hk hk2=>by omega,λk hk s hs ht=>?_⟩
  ·have:k=0:=by omega
   subst this
   simp at he
   subst he
   exact⟨by omega,by omega,λh=>by omega⟩
  ·have:=(jM s hs).2.1
   omega
 ·rintro k ⟨T,s2⟩ hk ⟨e0,hT⟩
  simp only at e0 hT
  subst e0
  have c1:((k+1:Nat):Int)<=(m:Int):=by omega
  have dA:=hT.len
  have x1:T[k+1]? =some (T[k+1]'(by omega)):=dH _
  obtain⟨r,k1,k2⟩:=hT.step hk (by omega)
  simp only[c1,gp,cS,cj x1,cK,k1]
  rw[gH (by omega)]
  exact .inl ⟨_,rfl,rfl,k2⟩
 ·rintro⟨T,s2⟩ ⟨e0,hT⟩
  simp only at e0 hT
  subst e0
  have c1: ¬(((m+1:Nat):Int)<=(m:Int)):=by omega
  simp only[c1,dX,dj]
  exact⟨_,rfl,hT⟩
 ·intro T hT
  have dA:=hT.len
  have x1:T[m]? =some (T[m]'(by omega)):=dH _
  generalize T[m]'(by omega)=e at x1
  simp only[cj x1,cK]
  by_cases c1:e<0
  ·simp only[c1,gp,cS]
   exact⟨_,rfl,λh=>by cases h⟩
  ·obtain⟨r,k1,k2,k3⟩:=f94_ex T m hT (by omega) cz m 768 [] (by unfold cz;omega) (eF _) (by simp;omega)
   have k1:f94 (m:Int) 768 gJ T []=some r:=k1
   simp only[c1,dX,dj,k1,cK]
   refine⟨_,rfl,λ_=>⟨by omega,by omega,?_,?_⟩⟩
   ·rcases k2 with⟨r1,q,r2,r3,r4⟩|⟨r1,r2⟩
    ·simp only[r2,rN,r3]
    ·have:=k3 (EK hT x1 (by omega));rw[r1]at this;cases this
   ·rcases k2 with⟨r1,q,r2,r3,r4⟩|⟨r1,r2⟩
    ·simp only[r2,rN];exact r4
    ·have:=k3 (EK hT x1 (by omega));rw[r1]at this;cases this
theorem f85_in(a lo hi:Int):f85 a lo hi=some (om a lo hi):=f85_eq a lo hi
structure nG (h:eA):Prop where
 n1:1<=h.low.length
 n4:h.low.length<=4
 hi:h.high.length=h.low.length
 ba:h.gh.length=h.low.length
 el: ∀(i:Nat)a b,h.low[i]? =some a->h.high[i]? =some b->0<=a/\a<=b/\b<=8
 t1:1<=h.top
 t2:h.top<=18
 j1:0<=h.jump
 j2:h.jump<=18
 ws: ∀x∈[h.shift,h.lift,h.lC,h.eH,h.gK],0<=x/\x<=1000
theorem f86_ex(l:List Int)(hs:bU l): ∃b,f86 l=some b/\True:=by
 have nN:l.length<=4194304:=hs
 unfold f86
 refine eK (λk(s:Int)=>s=(l.length:Int)-1-k) (λ_=>True) l.length hs (by rw[iL (by omega) (by omega)];omega) ?_ ?_ ?_
 ·intro k s hk hi
  subst hi
  by_cases h:0<(l.length:Int)-1-k
  ·have e1:l[l.length-1-k]? =some (l[l.length-1-k]'(by omega)):=dH _
   have e2:l[l.length-2-k]? =some (l[l.length-2-k]'(by omega)):=dH _
   have w:wr ((l.length:Int)-1-k-1)=((l.length-2-k:Nat):Int):=by rw[iL (by omega) (by omega)];omega
   have i1:ix l ((l.length:Int)-1-k)=some (l[l.length-1-k]'(by omega)):=Ww (l.length-1-k) (by omega) e1
   simp only[h,gp,cS,i1,w,cj e2,cK,f149,f177]
   simp only[pU,tt,dX,dj,cK]
   cases decide (l[l.length-1-k]'(by omega)<l[l.length-2-k]'(by omega))
   ·exact .inl ⟨_,rfl,by omega⟩
   ·exact .inr ⟨_,rfl,trivial⟩
  ·simp only[h,dX,dj]
   exact .inr ⟨_,rfl,trivial⟩
 ·intro s hi
  subst hi
  have h: ¬0<(l.length:Int)-1-(l.length:Nat):=by omega
  simp only[h,dX,dj]
  exact⟨_,rfl,trivial⟩
 ·intro r _
  cases r<;>exact⟨_,rfl,trivial⟩
theorem f39_ex(h:eA): ∃r,f39 h=some r/\(r=0->nG h):=by
 unfold f39
 simp only[f85_in]
 refine iw (P1:=λj=>j=false->om (h.low.length:Int) 1 4=true/\h.high.length=h.low.length/\h.gh.length=h.low.length) ?_ ?_
 ·simp only[cK]
  cases h1:om (h.low.length:Int) 1 4
  ·exact⟨_,rfl,λh=>by cases h⟩
  ·by_cases h2:h.high.length=h.low.length
   ·have e:((h.high.length:Int)≠(h.low.length:Int))=False:=by simp[h2]
    simp only[p8,dj,e,dX]
    refine⟨_,rfl,λh3=>⟨trivial,h2,?_⟩⟩
    simp at h3;omega
   ·have e:((h.high.length:Int)≠(h.low.length:Int))=True:=by simp;omega
    simp only[p8,dj,e,gp,cS]
    exact⟨_,rfl,λh=>by cases h⟩
 intro j hj
 cases j
 case true=>exact⟨60,rfl,λh=>by cases h⟩
 obtain⟨n1,n2,n3⟩:=hj rfl
 simp only[om,fi,xL]at n1
 simp only[dj]
 refine eK (λk(s:Int)=>s=(k:Int)/\ ∀(i:Nat)a b,i<k->h.low[i]? =some a->h.high[i]? =some b->0<=a/\a<=b/\b<=8) (λo=>match o with
  |.inl _=> ∀(i:Nat)a b,h.low[i]? =some a->h.high[i]? =some b->0<=a/\a<=b/\b<=8
  |.inr z=>z≠0) h.low.length (by omega) ⟨rfl,λi a b hi=>by omega⟩ ?_ ?_ ?_
 ·rintro k s hk ⟨rfl,hi⟩
  have e1:h.low[k]? =some (h.low[k]'hk):=dH _
  have e2:h.high[k]? =some (h.high[k]'(by omega)):=dH _
  generalize h.low[k]'hk=a at e1
  generalize h.high[k]'(by omega)=b at e2
  simp only[cJ e1,cS,cj e1,cj e2,cK,dI (l:=h.low) (by simp only[bU];omega) e1]
  by_cases c1:a<0
  ·simp only[c1,gp,cS,cK]
   exact .inr ⟨_,rfl,show(60:Int)≠0 by decide⟩
  by_cases c2:b<a
  ·simp only[c1,c2,gp,dX,cS,dj,cK]
   exact .inr ⟨_,rfl,show(60:Int)≠0 by decide⟩
  by_cases c3:8<b
  ·simp only[c1,c2,c3,gp,dX,cS,dj,cK]
   exact .inr ⟨_,rfl,show(60:Int)≠0 by decide⟩
  simp only[c1,c2,c3,gp,dX,cS,dj,cK]
  refine .inl ⟨_,rfl,rfl,λi a' b' AP ha hb=>?_⟩
  by_cases UJ:i<k
  ·exact hi i a' b' UJ ha hb
  ·have:i=k:=by omega
   subst this
   rw[e1]at ha;rw[e2]at hb
   cases ha;cases hb
   omega
 ·rintro s ⟨rfl,hi⟩
  simp only[ky,dX,dj]
  exact⟨_,rfl,λi a b ha hb=>hi i a b (fP.1 ha).1 ha hb⟩
 intro o ho
 cases o
 case inr=>rename_i z;exact⟨z,rfl,λh=>absurd h ho⟩
 simp only[Ac]
 refine iw (P1:=λj=>j=false->1<=h.top/\h.top<=18/\0<=h.jump/\h.jump<=18) ?_ ?_
 ·refine iw (P1:=λ_=>True) (f86_ex h.low (by simp only[bU];omega)) λb1 _=>Wx (λ_=>⟨_,rfl,λh=>by cases h⟩) λ_=>
   iw (P1:=λ_=>True) (f86_ex h.high (by simp only[bU];omega)) λb2 _=>Wx (λ_=>⟨_,rfl,λh=>by cases h⟩) λ_=>?_
  simp only[cK]
  cases h3:om h.top 1 18
  ·exact⟨_,rfl,λh=>by cases h⟩
  ·refine⟨_,rfl,λh4=>?_⟩
   simp only[om,fi,xL,YZ]at h3 h4
   omega
 intro j hj
 cases j
 case true=>exact⟨60,rfl,λh=>by cases h⟩
 obtain⟨t1,t2,j1,j2⟩:=hj rfl
 simp only[dj]
 refine eK (λk(s:Int)=>s=(k:Int)/\ ∀x∈[h.shift,h.lift,h.lC,h.eH,h.gK].take k,0<=x/\x<=1000) (λo=>match o with
  |.inl _=> ∀x∈[h.shift,h.lift,h.lC,h.eH,h.gK],0<=x/\x<=1000
  |.inr z=>z≠0) 5 (by omega) ⟨rfl,λx hx=>by simp at hx⟩ ?_ ?_ ?_
 ·rintro k s hk ⟨rfl,hi⟩
  generalize hL:[h.shift,h.lift,h.lC,h.eH,h.gK]=L at hi
  have hl:L.length=5:=by subst hL;rfl
  have e1:L[k]? =some (L[k]'(by omega)):=dH _
  generalize L[k]'(by omega)=x at e1
  have c:(k:Int)<5:=by omega
  simp only[c,gp,cS,cj e1,cK]
  rw[gH (by omega)]
  cases h3:om x 0 1000
  ·exact .inr ⟨_,rfl,show(60:Int)≠0 by decide⟩
  ·refine .inl ⟨_,rfl,rfl,λy hy=>?_⟩
   rw[cQ e1,lr]at hy
   rcases hy with hy|hy
   ·exact hi y hy
   ·simp at hy;subst hy
    simpa[om]using h3
 ·rintro s ⟨rfl,hi⟩
  exact⟨_,rfl,hi⟩
 intro o ho
 cases o
 case inr=>rename_i z;exact⟨z,rfl,λh=>absurd h ho⟩
 exact⟨0,rfl,λ_=>⟨by omega,by omega,n2,n3,by assumption,t1,t2,j1,j2,ho⟩⟩
def lM(x:Int)(p:aW):Bool:=decide (p.bt=x)
theorem f185_1_eq(l:List aW)(x:Int)(hs:bU l):f185_1 l x=some (gG (lM x) l):=by
 unfold f185_1
 rw[ey l (lM x) (λi _=>(i:Int)) hs]
 ·simp only[cK,fC,gG]
  cases l.findIdx? _<;>simp
 ·intro i y hy
  simp only[cJ hy,cS,cj hy,cK,f186,lM]
  cases decide (y.bt=x)<;>rfl
 ·simp
theorem f119_eq(c:bS)(x:Int)(hs:bU c.cG):f119 c x=some (gG (lM x) c.cG):=by
 unfold f119;rw[f185_1_eq _ _ hs];rfl
theorem f223_eq(l:List aW)(x:Int)(hs:bU l):f223 l x=some (l.any (lM x)):=by
 unfold f223 f190 f185
 rw[ey l (lM x) (λi _=>(i:Int)) hs]
 ·simp only[cK,fC]
  rw[<-gb]
  unfold gG
  cases l.findIdx? _<;>simp
 ·intro i y hy
  simp only[cJ hy,cS,cj hy,cK,f274,lM]
  cases decide (y.bt=x)<;>rfl
 ·simp
theorem xz{α:Type}{p:α->Bool}{l:List α}:decide (gG p l<0)=!(l.any p):=by
 rw[<-gb]
 by_cases h:gG p l<0
 ·simp[h]
 ·simp[h];omega
theorem rA{α:Type}{p:α->Bool}{l:List α}(h:l.any p=true): ∃(k:Nat)(x:α),gG p l=(k:Int)/\l[k]? =some x/\p x=true:=by
 unfold gG
 cases hf:l.findIdx? p with
 |none=>
  rw[XH]at hf
  obtain⟨x,hx,hp⟩:=vV.1 h
  rw[hf x hx]at hp;cases hp
 |some k=>
  obtain⟨hk,h1,_⟩:=U9.1 hf
  exact⟨k,_,rfl,dH hk,h1⟩
def GR(l:List Int):Prop:= ∀(i:Nat)a b,l[i]? =some a->l[i+1]? =some b->a<b
theorem f118_ex(l:List Int)(hs:bU l): ∃b,f118 l=some b/\(b=true↔GR l):=by
 have nN:l.length<=4194304:=hs
 unfold f118
 refine eK (λk(s:Int)=>s=((k+1:Nat):Int)/\ ∀(i:Nat)a b,i<k->l[i]? =some a->l[i+1]? =some b->a<b) (λo=>match o with
  |.inl _=>GR l
  |.inr b=>b=false/\ ¬GR l) (l.length-1) (by omega) ⟨rfl,λi a b h=>by omega⟩ ?_ ?_ ?_
 ·rintro k s hk ⟨rfl,hi⟩
  have e1:l[k+1]? =some (l[k+1]'(by omega)):=dH _
  have e2:l[k]? =some (l[k]'(by omega)):=dH _
  have w:wr (((k+1:Nat):Int)-1)=(k:Int):=by rw[iL (by omega) (by omega)];omega
  simp only[cJ e1,cS,cj e1,w,cj e2,cK]
  rw[gH (by omega)]
  by_cases c:l[k+1]'(by omega)<=l[k]'(by omega)
  ·simp only[c,gp,cS]
   exact .inr ⟨_,rfl,rfl,λh=>by have:=h k _ _ e2 e1;omega⟩
  ·simp only[c,dX,dj]
   refine .inl ⟨_,rfl,rfl,λi a b UJ ha hb=>?_⟩
   by_cases gq:i<k
   ·exact hi i a b gq ha hb
   ·have:i=k:=by omega
    subst this
    rw[e2]at ha;rw[e1]at hb
    cases ha;cases hb
    omega
 ·rintro s ⟨rfl,hi⟩
  have c: ¬(((l.length-1+1:Nat):Int)<(l.length:Int)):=by omega
  simp only[c,dX,dj]
  refine⟨_,rfl,λi a b ha hb=>hi i a b ?_ ha hb⟩
  have:=(fP.1 hb).1
  omega
 intro o ho
 cases o with
 |inl _=>exact⟨true,rfl,by simpa using ho⟩
 |inr b=>
  obtain⟨h1,h2⟩:=ho
  subst h1
  exact⟨false,rfl,by simpa using h2⟩
structure gn (c:bS):Prop where
 da: ∀(i:Nat)p q,c.cG[i]? =some p->c.cG[i+1]? =some q->p.bt<q.bt
 dc: ∀p∈c.cG,1<=p.bt/\p.bt<=14/\1<=p.cy/\p.cy<=18
 ha:GR c.held
 oa:GR c.di
 hd: ∀x∈c.held,c.cG.any (lM x)=true
 oo: ∀x∈c.di,1<=x/\x<=14/\c.cG.any (lM x)=false
theorem f59_ex(c:bS)(s1:bU c.cG)(s2:bU c.held)(s3:bU c.di): ∃b,f59 c=some b/\(b=true↔gn c):=by
 have s1':c.cG.length<=4194304:=s1
 have s2':c.held.length<=4194304:=s2
 have s3':c.di.length<=4194304:=s3
 unfold f59
 refine eK (λk(s:Int×Int)=>s=((c.cG[k-1]?.map aW.bt).getD 0*(if k=0 then 0 else 1),(k:Int))/\(∀p∈c.cG.take k,1<=p.bt/\p.bt<=14/\1<=p.cy/\p.cy<=18)/\
   ∀(i:Nat)p q,i+1<k->c.cG[i]? =some p->c.cG[i+1]? =some q->p.bt<q.bt) (λo=>match o with
  |.inl _=>(∀(i:Nat)p q,c.cG[i]? =some p->c.cG[i+1]? =some q->p.bt<q.bt)/\ ∀p∈c.cG,1<=p.bt/\p.bt<=14/\1<=p.cy/\p.cy<=18
  |.inr b=>b=false/\ ¬gn c) c.cG.length s1' ⟨by simp,λp hp=>by simp at hp,λi p q h=>by omega⟩ ?_ ?_ ?_
 ·rintro k s hk ⟨rfl,h1,h2⟩
  have e1:c.cG[k]? =some (c.cG[k]'hk):=dH _
  generalize c.cG[k]'hk=y at e1
  simp only[cJ e1,cS,cj e1,cK,dI s1 e1,f85_in]
  generalize hL:(c.cG[k-1]?.map aW.bt).getD 0*(if k=0 then 0 else 1)=L
  by_cases c1:y.bt<=L
  ·simp only[c1,gp,cS,cK]
   refine .inr ⟨_,rfl,rfl,λhr=>?_⟩
   by_cases To:k=0
   ·subst To
    simp at hL
    subst hL
    have:=hr.dc y (gz e1)
    omega
   ·have e2:c.cG[k-1]? =some (c.cG[k-1]'(by omega)):=dH _
    rw[e2]at hL
    simp[To]at hL
    have:=hr.da (k-1) _ y e2 (by rw[Nat.sub_add_cancel (by omega)];exact e1)
    omega
  by_cases c2:14<y.bt
  ·simp only[c1,c2,gp,dX,cS,dj,cK]
   refine .inr ⟨_,rfl,rfl,λhr=>?_⟩
   have:=hr.dc y (gz e1)
   omega
  cases c3:om y.cy 1 18
  ·simp only[c1,c2,dX,dj,cK,Hz,cS]
   refine .inr ⟨_,rfl,rfl,λhr=>?_⟩
   have:=hr.dc y (gz e1)
   simp[om]at c3
   omega
  ·simp only[c1,c2,dX,dj,cK,p8]
   simp only[om,fi,xL]at c3
   have hL0:0<=L:=by
    by_cases To:k=0
    ·subst To;simp at hL;omega
    ·have e2:c.cG[k-1]? =some (c.cG[k-1]'(by omega)):=dH _
     have hm:c.cG[k-1]'(by omega)∈c.cG.take k:=by
      rw[List.mem_take_iff_getElem]
      exact⟨k-1,by omega,rfl⟩
     have:=h1 _ hm
     rw[e2]at hL
     simp[To]at hL
     omega
   refine .inl ⟨_,rfl,?_,λp hp=>?_,λi p q hi hp hq=>?_⟩
   ·simp only[XI,e1,gy,Ab]
    simp
   ·rw[cQ e1,lr]at hp
    rcases hp with hp|hp
    ·exact h1 p hp
    ·simp at hp;subst hp;omega
   ·by_cases UJ:i+1<k
    ·exact h2 i p q UJ hp hq
    ·have hk1:k=i+1:=by omega
     subst hk1
     rw[e1]at hq;cases hq
     simp only[XI,hp,gy,Ab]at hL
     simp at hL
     omega
 ·rintro s ⟨rfl,h1,h2⟩
  simp only[ky,dX,dj]
  refine⟨_,rfl,λi p q hp hq=>h2 i p q (fP.1 hq).1 hp hq,λp hp=>h1 p (by simpa using hp)⟩
 intro o ho
 cases o with
 |inr b=>obtain⟨rfl,h⟩:=ho;exact⟨false,rfl,by simpa using h⟩
 |inl _=>
 obtain⟨d1,d2⟩:=ho
 simp only[Ac]
 refine iw (P1:=λj=>j=false↔(GR c.held/\GR c.di)) ?_ ?_
 ·refine iw (f118_ex c.held s2) λb1 h1=>?_
  cases b1
  ·exact⟨true,rfl,by simp at h1;simp[h1]⟩
  ·refine iw (f118_ex c.di s3) λb2 h2=>⟨!b2,rfl,?_⟩
   simp at h1
   cases b2<;>simp_all
 intro j hj
 cases j
 case true=>
  refine⟨false,rfl,?_⟩
  simp at hj
  simp
  exactλh=>hj h.ha h.oa
 obtain⟨a1,a2⟩:=hj.1 rfl
 simp only[dj]
 refine eK (λk(s:Int)=>s=(k:Int)/\ ∀x∈c.held.take k,c.cG.any (lM x)=true) (λo=>match o with
  |.inl _=> ∀x∈c.held,c.cG.any (lM x)=true
  |.inr b=>b=false/\ ¬gn c) c.held.length s2' ⟨rfl,λp hp=>by simp at hp⟩ ?_ ?_ ?_
 ·rintro k s hk ⟨rfl,h1⟩
  have e1:c.held[k]? =some (c.held[k]'hk):=dH _
  generalize c.held[k]'hk=y at e1
  simp only[cJ e1,cS,cj e1,cK,dI s2 e1,f119_eq c _ s1,xz]
  cases c1:c.cG.any (lM y)
  ·exact .inr ⟨_,rfl,rfl,λhr=>by have:=hr.hd y (gz e1);rw[c1]at this;cases this⟩
  ·refine .inl ⟨_,rfl,rfl,λp hp=>?_⟩
   rw[cQ e1,lr]at hp
   rcases hp with hp|hp
   ·exact h1 p hp
   ·simp at hp;subst hp;exact c1
 ·rintro s ⟨rfl,h1⟩
  simp only[ky,dX,dj]
  exact⟨_,rfl,λp hp=>h1 p (by simpa using hp)⟩
 intro o ho
 cases o with
 |inr b=>obtain⟨rfl,h⟩:=ho;exact⟨false,rfl,by simpa using h⟩
 |inl _=>
 simp only[Ac]
 refine eK (λk(s:Int)=>s=(k:Int)/\ ∀x∈c.di.take k,1<=x/\x<=14/\c.cG.any (lM x)=false) (λo=>match o with
  |.inl _=> ∀x∈c.di,1<=x/\x<=14/\c.cG.any (lM x)=false
  |.inr b=>b=false/\ ¬gn c) c.di.length s3' ⟨rfl,λp hp=>by simp at hp⟩ ?_ ?_ ?_
 ·rintro k s hk ⟨rfl,h1⟩
  have e1:c.di[k]? =some (c.di[k]'hk):=dH _
  generalize c.di[k]'hk=y at e1
  simp only[cJ e1,cS,cj e1,cK,dI s3 e1,f85_in,f119_eq c _ s1,gb]
  cases c0:om y 1 14
  ·refine .inr ⟨_,rfl,rfl,λhr=>?_⟩
   have:=hr.oo y (gz e1)
   simp[om]at c0
   omega
  cases c1:c.cG.any (lM y)
  ·refine .inl ⟨_,rfl,rfl,λp hp=>?_⟩
   rw[cQ e1,lr]at hp
   rcases hp with hp|hp
   ·exact h1 p hp
   ·simp at hp;subst hp
    simp[om]at c0
    exact⟨c0.1,c0.2,c1⟩
  ·exact .inr ⟨_,rfl,rfl,λhr=>by have:=hr.oo y (gz e1);rw[c1]at this;exact Bool.noConfusion this.2.2⟩
 ·rintro s ⟨rfl,h1⟩
  simp only[ky,dX,dj]
  exact⟨_,rfl,λp hp=>h1 p (by simpa using hp)⟩
 intro o h3
 cases o with
 |inr b=>obtain⟨rfl,h⟩:=h3;exact⟨false,rfl,by simpa using h⟩
 |inl _=>exact⟨true,rfl,by simp;exact⟨d1,d2,a1,a2,ho,h3⟩⟩
theorem f187_eq(l:List Int)(x:Int)(hs:bU l):f187 l x=some (gG (λy=>decide (x=y)) l):=by
 unfold f187
 rw[ey l (λy=>decide (x=y)) (λi _=>(i:Int)) hs]
 ·simp only[cK,fC,gG]
  cases l.findIdx? _<;>simp
 ·intro i y hy
  simp only[cJ hy,cS,cj hy,cK]
  cases decide (x=y)<;>rfl
 ·simp
theorem f188_eq(l:List Int)(a b:Int)(hs:bU l):f188 l a b=some (l.any λx=>decide (a<x)&&decide (x<b)):=by
 unfold f188 f243
 rw[ey l (λx=>decide (a<x)&&decide (x<b)) (λi _=>(i:Int)) hs]
 ·simp only[cK,fC]
  rw[<-gb]
  unfold gG
  cases l.findIdx? _<;>simp
 ·intro i y hy
  simp only[cJ hy,cS,cj hy,cK,f189]
  cases decide (a<y)<;>cases decide (y<b)<;>rfl
 ·simp
theorem f190_1_eq(l:List aW)(a:Int)(hs:bU l):f190_1 l a=some (l.any λx=>decide (x.cy<a)):=by
 unfold f190_1 f185_2
 rw[ey l (λx:aW=>decide (x.cy<a)) (λi _=>(i:Int)) hs]
 ·simp only[cK,fC]
  rw[<-gb]
  unfold gG
  cases l.findIdx? _<;>simp
 ·intro i y hy
  simp only[cJ hy,cS,cj hy,cK,f191]
  cases decide (y.cy<a)<;>rfl
 ·simp
theorem Kf{α:Type}{p:α->Bool}{l:List α}{k:Nat}{x:α}(hx:l[k]? =some x)(hp:p x=true):0<=gG p l/\gG p l<=(k:Int):=by
 have ha:l.any p=true:=vV.2 ⟨x,gz hx,hp⟩
 obtain⟨j,y,h1,h2,h3⟩:=rA ha
 rw[h1]
 refine⟨by omega,?_⟩
 by_cases hjk:j<=k
 ·omega
 ·exfalso
  unfold gG at h1
  cases hf:l.findIdx? p with
  |none=>rw[hf]at h1;simp at h1
  |some m=>
   rw[hf]at h1
   obtain⟨hm,_,h5⟩:=U9.1 hf
   have e:m=j:=by simp only at h1;omega
   subst e
   have:=h5 k (by omega)
   have hxk:=(fP.1 hx).2
   rw[hxk]at this
   exact this hp
theorem f121_ex(h:eA)(c:bS)(fs:List Int)(hn:h.low.length<=4)(hb:h.gh.length=h.low.length)(hl:fs.length=c.cG.length)(hs:bU c.cG)(ho:bU c.di):
  ∃b,f121 h c fs=some b/\(fs.length<=1->b=true):=by
 have nN:c.cG.length<=4194304:=hs
 have hf:bU fs:=by simp only[bU];omega
 unfold f121
 refine eK (λk(s:Int)=>s=((k+1:Nat):Int)) (λo=>fs.length<=1->o=.inl ()) h.low.length (by omega) rfl ?_ ?_ ?_
 ·rintro k s hk rfl
  have c0:((k+1:Nat):Int)<=(h.low.length:Int):=by omega
  simp only[c0,gp,cS,f187_eq fs _ hf,cK,xz]
  rw[gH (by omega)]
  cases ha:fs.any (λy=>decide (((k+1:Nat):Int)=y))
  ·exact .inl ⟨_,rfl,by omega⟩
  obtain⟨j,y,h1,h2,h3⟩:=rA ha
  have h3:=U7 h3
  subst h3
  have hj:=(fP.1 h2).1
  simp only[h1,p8,dj]
  have key: ∃m:Nat,bZ (σ:=(Int×Int)) (τ:=Int) (λ((Nn,uE):(Int×Int))=>bif (decide (uE<(fs.length:Int)))then((((ix fs uE).bind λy5=>bif (decide (y5=((k+1:Nat):Int)))then(some uE)else(some Nn)):Option Int).bind λ(ze:Int)=>some (.inl (ze,(wr (uE+1)))))else(some (.inr Nn))) cz ((j:Int),0)=some (m:Int)/\j<=m/\m<fs.length:=by
   have:=j7 (body:=λ((Nn,uE):(Int×Int))=>bif (decide (uE<(fs.length:Int)))then((((ix fs uE).bind λy5=>bif (decide (y5=((k+1:Nat):Int)))then(some uE)else(some Nn)):Option Int).bind λ(ze:Int)=>some (.inl (ze,(wr (uE+1)))))else(some (.inr Nn)))
    (λn(s:Int×Int)=>s.2=(n:Int)/\ ∃m:Nat,s.1=(m:Int)/\j<=m/\m<fs.length) (λr=> ∃m:Nat,r=(m:Int)/\j<=m/\m<fs.length) fs.length (s0:=((j:Int),0)) hf ⟨rfl,j,rfl,eF _,hj⟩ ?_ ?_
   ·obtain⟨r,e1,m,e2,e3⟩:=this
    subst e2
    exact⟨m,e1,e3⟩
   ·rintro n ⟨s1,s2⟩ hn ⟨e1,m,e2,e3,e4⟩
    simp only at e1 e2
    subst e1;subst e2
    have g1:fs[n]? =some (fs[n]'hn):=dH _
    generalize fs[n]'hn=z at g1
    simp only[cJ g1,cS,cj g1,cK,dI hf g1]
    by_cases hz:z=((k+1:Nat):Int)
    ·simp only[hz,gp,cS,cK]
     refine .inl ⟨_,rfl,rfl,n,rfl,?_,hn⟩
     have:=Kf (p:=λy=>decide (((k+1:Nat):Int)=y)) g1 (by simp[hz])
     rw[h1]at this
     omega
    ·simp only[hz,dX,dj,cK]
     exact .inl ⟨_,rfl,rfl,m,rfl,e3,e4⟩
   ·rintro⟨s1,s2⟩ ⟨e1,m,e2,e3,e4⟩
    simp only at e1 e2
    subst e1;subst e2
    simp only[ky,dX,dj]
    exact⟨_,rfl,m,rfl,e3,e4⟩
  obtain⟨m,k1,k2,k3⟩:=key
  simp only[k1,cK]
  by_cases hjm:j=m
  ·subst hjm
   simp only[gp,cS]
   exact .inl ⟨_,rfl,by omega⟩
  have c2: ¬((j:Int)=(m:Int)):=by omega
  have Yo: ¬fs.length<=1:=by omega
  have b1:h.gh[k]? =some (h.gh[k]'(by omega)):=dH _
  have w:wr (((k+1:Nat):Int)-1)=(k:Int):=by rw[iL (by omega) (by omega)];omega
  have d1:c.cG[j]? =some (c.cG[j]'(by omega)):=dH _
  have d2:c.cG[m]? =some (c.cG[m]'(by omega)):=dH _
  simp only[c2,dX,dj,w,cj b1,cj d1,cj d2,cK,f188_eq _ _ _ ho]
  have n1:(0:Int)<=(j:Int):=by omega
  have n2:(0:Int)<=(m:Int):=by omega
  have n3:((j:Int)).toNat<=((m:Int)).toNat:=by omega
  have n4:((m:Int)).toNat<=c.cG.length:=by omega
  have AA:bU ((c.cG.take ((m:Int)).toNat).drop ((j:Int)).toNat):=by simp only[bU,Ug,DB];omega
  simp only[dg n1,dg n2,dg n3,dg n4,f190_1_eq _ _ AA,cK]
  generalize h.gh[k]'(by omega)=x1
  generalize decide ((c.cG[j]'(by omega)).cy≠(c.cG[m]'(by omega)).cy)=x2
  generalize(c.di.any λx=>_)=x3
  generalize(List.any _ λx:aW=>_)=x4
  cases x1
  ·exact .inr ⟨_,rfl,λh=>absurd h Yo⟩
  cases x2
  ·cases x3
   ·cases x4
    ·exact .inl ⟨_,rfl,by omega⟩
    ·exact .inr ⟨_,rfl,λh=>absurd h Yo⟩
   ·exact .inr ⟨_,rfl,λh=>absurd h Yo⟩
  ·exact .inr ⟨_,rfl,λh=>absurd h Yo⟩
 ·rintro s rfl
  have c0: ¬(((h.low.length+1:Nat):Int)<=(h.low.length:Int)):=by omega
  simp only[c0,dX,dj]
  exact⟨_,rfl,λ_=>rfl⟩
 ·intro o ho
  cases o with
  |inl _=>exact⟨true,rfl,λ_=>rfl⟩
  |inr b=>exact⟨b,rfl,λh=>by have:=ho h;cases this⟩
theorem f121_one: @f121_1= @f121:=rfl
def vD(h:eA)(pos f cy:Int):Bool:=match h.low[(f-1).toNat]?,h.high[(f-1).toNat]? with
 |some a,some b=>om cy (wr (pos+a)) (wr (pos+b))
 |_,_=>false
theorem f122_eq(h:eA)(hh:nG h)(pos f cy:Int)(h1:1<=f)(h2:f<=h.low.length):f122 h pos f cy=some (vD h pos f cy):=by
 have hi:=hh.hi
 have h4:=hh.n4
 have e:wr (f-1)=(((f-1).toNat:Nat):Int):=by rw[iL (by omega) (by omega)];omega
 have e1:h.low[(f-1).toNat]? =some (h.low[(f-1).toNat]'(by omega)):=dH _
 have e2:h.high[(f-1).toNat]? =some (h.high[(f-1).toNat]'(by omega)):=dH _
 unfold f122 vD
 simp only[e,cj e1,cj e2,e1,e2,cK,f85_in]
def nH(p q:aW)(f g:Int):Bool:=if p.cy<q.cy then decide (f<g)else if q.cy<p.cy then decide (g<f)else if p.bt<q.bt then decide (g<=f)else decide (f<=g)
theorem f123_eq(p q:aW)(f g:Int):f123 p q f g=some (nH p q f g):=by
 unfold f123 nH
 by_cases h1:p.cy<q.cy
 ·simp[h1]
 by_cases h2:q.cy<p.cy
 ·simp[h1,h2]
 by_cases h3:p.bt<q.bt
 ·simp[h1,h2,h3]
 ·simp[h1,h2,h3]
structure EL (h:eA) (c:bS) (pos:Int) (fs:List Int):Prop where
 len:fs.length<=c.cG.length
 fit: ∀(i:Nat)f p,fs[i]? =some f->c.cG[i]? =some p->1<=f/\f<=h.low.length/\vD h pos f p.cy=true
 agr: ∀(i j:Nat)f g p q,i<j->fs[i]? =some f->fs[j]? =some g->c.cG[i]? =some p->c.cG[j]? =some q->nH p q f g=true
structure Fit (h:eA) (c:bS) (g:cr):Prop where
 p1:1<=g.pos
 p2:g.pos<=h.top
 len:g.dm.length=c.cG.length
 fit:EL h c g.pos g.dm
 sp:f121 h c g.dm=some true
theorem f45_1_eq(l:List Int)(h:bU l):f45_1 l=some l:=by
 unfold f45_1
 by_cases c:l=[]
 ·subst c;simp
 ·have:l.length<=bJ:=by simp only[bU]at h;unfold bJ;omega
  rw[show l.isEmpty=false from by simpa using c];simp[dg this]
theorem Np:4194304<cz:=by unfold cz;omega
theorem EL.snoc{h:eA}{c:bS}{pos:Int}{fs:List Int}{f:Int}{p:aW}(hf:EL h c pos fs)(hp:c.cG[fs.length]? =some p)(h1:1<=f)(h2:f<=h.low.length)(h3:vD h pos f p.cy=true)
  (h4: ∀(i:Nat)g q,fs[i]? =some g->c.cG[i]? =some q->nH q p g f=true):EL h c pos (fs++[f]):=by
 have gq:=(fP.1 hp).1
 refine⟨by simp;omega,λi g q hg hq=>?_,λi j g1 g2 q1 q2 oT e1 e2 e3 e4=>?_⟩
 ·by_cases hi:i<fs.length
  ·rw[np hi]at hg
   exact hf.fit i g q hg hq
  ·have hl:=(fP.1 hg).1
   simp at hl
   have:i=fs.length:=by omega
   subst this
   rw[hp]at hq;cases hq
   simp at hg;subst hg
   exact⟨h1,h2,h3⟩
 ·have hl:=(fP.1 e2).1
  simp at hl
  have hi:i<fs.length:=by omega
  rw[np hi]at e1
  by_cases hj:j<fs.length
  ·rw[np hj]at e2
   exact hf.agr i j g1 g2 q1 q2 oT e1 e2 e3 e4
  ·have:j=fs.length:=by omega
   subst this
   rw[hp]at e4;cases e4
   simp at e2;subst e2
   exact h4 i g1 q1 e1 e3
theorem f120_ex(h:eA)(hh:nG h)(c:bS)(pos:Int)(Tl:1<=pos)(hp2:pos<=h.top)(hd:c.cG.length<=14)(ho:bU c.di): ∀(fu:Nat)(fs:List Int)(l:List cr),EL h c pos fs->c.cG.length-fs.length<fu->
  l.length<=201->(fs.length=c.cG.length->l.length<=200)->
  ∃r,f120r fu pos fs c h l=some r/\(r.1=fs/\ ∃m,r.2=l++m/\(l++m).length<=201/\ ∀g∈m,g.pos=pos/\Fit h c g)
 |0,fs,l,hf,hu,hl,Dw=>by omega
 |fu+1,fs,l,hf,hu,hl,Dw=>by
  have dA:=hf.len
  have hsd:bU c.cG:=by simp only[bU];omega
  have hsf:bU fs:=by simp only[bU];omega
  have hn4:=hh.n4
  unfold f120r
  by_cases he:fs.length=c.cG.length
  ·have e:decide ((fs.length:Int)=(c.cG.length:Int))=true:=by simp[he]
   simp only[e,cS]
   obtain⟨b,hb,_⟩:=f121_ex h c fs hn4 hh.ba he hsd ho
   have Dw:=Dw he
   have m1:l.length+1<=bJ:=by unfold bJ;omega
   simp only[hb,cK,f45_1_eq fs hsf,dg m1]
   cases b
   ·exact⟨_,rfl,rfl,[],by simp,by simpa using hl,λg hg=>by simp at hg⟩
   ·refine⟨_,rfl,rfl,[⟨pos,fs⟩],rfl,by simp;omega,λg hg=>?_⟩
    simp at hg
    subst hg
    exact⟨rfl,Tl,hp2,he,hf,hb⟩
  ·have e:decide ((fs.length:Int)=(c.cG.length:Int))=false:=by simp;omega
   simp only[e,dj]
   have gq:fs.length<c.cG.length:=by omega
   have p0:c.cG[fs.length]? =some (c.cG[fs.length]'gq):=dH _
   generalize c.cG[fs.length]'gq=p at p0
   refine eK (λk(s:List Int×List cr×Int)=>s.1=fs/\s.2.2=((k+1:Nat):Int)/\ ∃m,s.2.1=l++m/\(l++m).length<=201/\ ∀g∈m,g.pos=pos/\Fit h c g)
    (λr=>r.1=fs/\ ∃m,r.2=l++m/\(l++m).length<=201/\ ∀g∈m,g.pos=pos/\Fit h c g) h.low.length (by omega) ⟨rfl,rfl,[],by simp,by simpa using hl,λg hg=>by simp at hg⟩ ?_ ?_ ?_
   ·rintro k ⟨s1,s2,s3⟩ hk ⟨e1,e2,m,e3,Bm,Dx⟩
    simp only at e1 e2 e3
    subst e1;subst e2;subst e3
    have c0:((k+1:Nat):Int)<=(h.low.length:Int):=by omega
    simp only[c0,gp,cS,cK]
    by_cases c1:((l++m).length:Int)<=200
    ·simp only[c1,gp,cS,cj p0,cK,f122_eq h hh pos _ p.cy (show 1<=((k+1:Nat):Int)by omega) c0]
     rw[gH (by omega)]
     cases hr:vD h pos ((k+1:Nat):Int) p.cy
     ·exact .inl ⟨_,rfl,rfl,rfl,m,rfl,Bm,Dx⟩
     simp only[p8,dj]
     have key: ∃o,bZ (σ:=Int) (τ:=(Unit⊕(List Int×List cr))) (λ(IE:Int)=>bif (decide (IE<(s1.length:Int)))then((ix s1 IE).bind λP3=>(ix c.cG IE).bind λUK=>(f123 UK p P3 ((k+1:Nat):Int)).bind λr14=>bif (!r14)then(some (.inr (.inr (s1,l++m))))else(some (.inl (wr (IE+1)))))else(some (.inr (.inl ())))) cz 0=some o/\
       (match o with
        |.inl _=> ∀(i:Nat)g q,s1[i]? =some g->c.cG[i]? =some q->nH q p g ((k+1:Nat):Int)=true
        |.inr x=>x=(s1,l++m)):=by
      refine j7 (λn(s:Int)=>s=(n:Int)/\ ∀(i:Nat)g q,i<n->s1[i]? =some g->c.cG[i]? =some q->nH q p g ((k+1:Nat):Int)=true) _ s1.length hsf ⟨rfl,λi g q h=>by omega⟩ ?_ ?_
      ·rintro n s hn ⟨rfl,hi⟩
       have g1:s1[n]? =some (s1[n]'hn):=dH _
       have g2:c.cG[n]? =some (c.cG[n]'(by omega)):=dH _
       simp only[cJ g1,cS,cj g1,cj g2,cK,dI hsf g1,f123_eq]
       cases ha:nH (c.cG[n]'(by omega)) p (s1[n]'hn) ((k+1:Nat):Int)
       ·exact .inr ⟨_,rfl,rfl⟩
       ·refine .inl ⟨_,rfl,rfl,λi g q eZ hg hq=>?_⟩
        by_cases gq:i<n
        ·exact hi i g q gq hg hq
        ·have:i=n:=by omega
         subst this
         rw[g1]at hg;rw[g2]at hq
         cases hg;cases hq
         exact ha
      ·rintro s ⟨rfl,hi⟩
       simp only[ky,dX,dj]
       exact⟨_,rfl,λi g q hg hq=>hi i g q (fP.1 hg).1 hg hq⟩
     obtain⟨o,k1,k2⟩:=key
     simp only[k1,cK]
     cases o with
     |inr x=>
      simp only at k2
      subst k2
      exact .inl ⟨_,rfl,rfl,rfl,m,rfl,Bm,Dx⟩
     |inl _=>
      simp only at k2
      have m1:s1.length+1<=bJ:=by unfold bJ;omega
      have hpf:=hf.snoc p0 (f:=((k+1:Nat):Int)) (by omega) c0 hr k2
      obtain⟨r,r1,r2,m',r3,r4,r5⟩:=f120_ex h hh c pos Tl hp2 hd ho fu (s1++[((k+1:Nat):Int)]) (l++m) hpf (by simp;omega) Bm (λ_=>by omega)
      have n1:(0:Int)<=(s1.length:Int):=by omega
      have n2:((s1.length:Int)).toNat<=r.1.length:=by rw[r2];simp
      simp only[Ac,dg m1,r1,cK,dg n1,dg n2]
      refine .inl ⟨_,rfl,?_,rfl,m++m',by rw[r3];simp,by simpa[DC]using r4,λg hg=>?_⟩
      ·rw[r2];simp
      ·rcases lr.1 hg with hg|hg
       ·exact Dx g hg
       ·exact r5 g hg
    ·simp only[c1,dX,dj]
     exact .inr ⟨_,rfl,rfl,m,rfl,Bm,Dx⟩
   ·rintro⟨s1,s2,s3⟩ ⟨e1,e2,m,e3,Bm,Dx⟩
    simp only at e1 e2 e3
    subst e1;subst e2;subst e3
    have c0: ¬(((h.low.length+1:Nat):Int)<=(h.low.length:Int)):=by omega
    simp only[c0,dX,dj,cK]
    exact⟨_,rfl,rfl,m,rfl,Bm,Dx⟩
   ·rintro⟨s1,s2⟩ ⟨e1,m,e2,Bm,Dx⟩
    exact⟨_,rfl,e1,m,e2,Bm,Dx⟩
theorem zf(h:eA)(c:bS)(pos:Int):EL h c pos []:=⟨by simp,λi f p h=>by simp at h,λi j f g p q _ h=>by simp at h⟩
theorem f60_ex(h:eA)(hh:nG h)(c:bS)(hd:c.cG.length<=14)(ho:bU c.di): ∃l,f60 h c=some l/\(l.length<=201/\ ∀g∈l,Fit h c g):=by
 have t2:=hh.t2
 have t1:=hh.t1
 unfold f60
 refine eK (λk(s:List cr×List Int×Int)=>s.2.1=[]/\s.2.2=((k+1:Nat):Int)/\s.1.length<=201/\(c.cG.length=0->s.1.length<=k)/\ ∀g∈s.1,Fit h c g) (λl=>l.length<=201/\ ∀g∈l,Fit h c g) h.top.toNat (by omega) ⟨rfl,rfl,by simp,λ_=>by simp,λg hg=>by simp at hg⟩ ?_ ?_ ?_
 ·rintro k ⟨s1,s2,s3⟩ hk ⟨e1,e2,h1,h2,h3⟩
  simp only at e1 e2 h1 h2 h3
  subst e1;subst e2
  have c0:((k+1:Nat):Int)<=h.top:=by omega
  have hb:=Np
  by_cases hz:c.cG.length=0
  ·have e0:c.cG=[]:=Kx hz
   obtain⟨b,hb,vf⟩:=f121_ex h c [] hh.n4 hh.ba (by simp[e0]) (by simp[bU,e0]) ho
   have vf:=vf (by simp)
   subst vf
   have m1:s1.length+1<=bJ:=by unfold bJ;omega
   have hF:cz=(cz-1)+1:=by omega
   have Gl:(([]:List Int).length:Int)=(c.cG.length:Int):=by simp[e0]
   simp only[c0,gp,cS,f120]
   rw[hF]
   simp only[f120r,Gl,gp,cS,hb,cK,f45_1_eq [] (by simp[bU]),dg m1]
   rw[gH (by omega)]
   refine .inl ⟨_,rfl,rfl,rfl,by simp;have:=h2 hz;omega,λ_=>by simp;exact h2 hz,λg hg=>?_⟩
   rcases lr.1 hg with hg|hg
   ·exact h3 g hg
   ·simp at hg;subst hg
    exact⟨by show(1:Int)<=((k+1:Nat):Int);omega,c0,by simp[e0],zf h c _,hb⟩
  ·obtain⟨r,r1,r2,m,r3,r4,r5⟩:=f120_ex h hh c ((k+1:Nat):Int) (by omega) c0 hd ho cz [] s1 (zf h c _) (by omega) h1 (λh=>by simp at h;omega)
   simp only[c0,gp,cS,f120,r1,cK]
   rw[gH (by omega)]
   refine .inl ⟨_,rfl,r2,rfl,by rw[r3];exact r4,λh=>absurd h hz,λg hg=>?_⟩
   rw[r3]at hg
   rcases lr.1 hg with hg|hg
   ·exact h3 g hg
   ·exact(r5 g hg).2
 ·rintro⟨s1,s2,s3⟩ ⟨e1,e2,h1,h2,h3⟩
  simp only at e1 e2 h1 h2 h3
  subst e1;subst e2
  have c0: ¬(((h.top.toNat+1:Nat):Int)<=h.top):=by omega
  simp only[c0,dX,dj]
  exact⟨_,rfl,h1,h3⟩
 ·intro l hl
  exact⟨l,rfl,hl⟩
theorem EM(p q:aW):gY p q=decide (p=q):=by
 unfold gY
 cases p;cases q
 simp[Bool.decide_and]
theorem f277_ex(h:eA)(hh:nG h)(c:bS)(g:cr)(hd:bU c.cG)(hf:bU g.dm)(ho:bU c.di): ∃b,f277 h c g=some b/\(b=true↔Fit h c g):=by
 have uX:c.cG.length<=4194304:=hd
 have uU:g.dm.length<=4194304:=hf
 unfold f277
 refine iw (P1:=λj=>j=false↔(1<=g.pos/\g.pos<=h.top/\g.dm.length=c.cG.length)) ?_ ?_
 ·simp only[f85_in,cK]
  cases h1:om g.pos 1 h.top
  ·refine⟨true,rfl,?_⟩
   simp[om]at h1 |-
   intro h2 h3;omega
  ·refine⟨_,rfl,?_⟩
   simp[om]at h1 |-
   constructor
   ·intro h2;exact⟨h1.1,h1.2,by omega⟩
   ·intro h2;omega
 intro j hj
 cases j
 case true=>exact⟨false,rfl,by simp at hj;simp;exactλhF=>hj hF.p1 hF.p2 hF.len⟩
 obtain⟨p1,p2,hl⟩:=hj.1 rfl
 simp only[dj]
 refine eK (λk(s:Int)=>s=(k:Int)/\EL h c g.pos (g.dm.take k)) (λo=>match o with
  |.inl _=>EL h c g.pos g.dm
  |.inr b=>b=false/\ ¬Fit h c g) g.dm.length uU ⟨rfl,by simpa using zf h c g.pos⟩ ?_ ?_ ?_
 ·rintro k s hk ⟨rfl,hp⟩
  have e1:g.dm[k]? =some (g.dm[k]'hk):=dH _
  have e2:c.cG[k]? =some (c.cG[k]'(by omega)):=dH _
  generalize g.dm[k]'hk=f at e1
  generalize c.cG[k]'(by omega)=p at e2
  have Ym:(g.dm.take k).length=k:=by simp;omega
  simp only[cJ e1,cS,cj e1,cK,dI hf e1,f85_in]
  cases c1:om f 1 (h.low.length:Int)
  ·simp only[Hz,cS,cK]
   refine .inr ⟨_,rfl,rfl,λhF=>?_⟩
   have:=hF.fit.fit k f p e1 e2
   simp[om]at c1
   omega
  simp only[om,fi,xL]at c1
  simp only[p8,dj,cj e2,cK,f122_eq h hh g.pos f p.cy c1.1 c1.2]
  cases c2:vD h g.pos f p.cy
  ·simp only[Hz,cS]
   exact .inr ⟨_,rfl,rfl,λhF=>by have:=(hF.fit.fit k f p e1 e2).2.2;rw[c2]at this;cases this⟩
  simp only[p8,dj]
  have key: ∃o,bZ (σ:=Int) (τ:=(Unit⊕(Int⊕(Unit⊕Bool)))) (λ(IF:Int)=>bif (decide (IF<(k:Int)))then((ix c.cG IF).bind λP3=>(ix g.dm IF).bind λKL=>(f123 P3 p KL f).bind λr15=>bif (!r15)then(some (.inr (.inr (.inr (.inr false)))))else(some (.inl (wr (IF+1)))))else(some (.inr (.inl ())))) cz 0=some o/\
    (match o with
     |.inl _=> ∀(i:Nat)g' q,(g.dm.take k)[i]? =some g'->c.cG[i]? =some q->nH q p g' f=true
     |.inr x=>x=.inr (.inr false)/\ ¬Fit h c g):=by
   refine j7 (λn(s:Int)=>s=(n:Int)/\ ∀(i:Nat)g' q,i<n->(g.dm.take k)[i]? =some g'->c.cG[i]? =some q->nH q p g' f=true) _ k (by omega) ⟨rfl,λi g q h=>by omega⟩ ?_ ?_
   ·rintro n s hn ⟨rfl,hi⟩
    have g1:g.dm[n]? =some (g.dm[n]'(by omega)):=dH _
    have g2:c.cG[n]? =some (c.cG[n]'(by omega)):=dH _
    have c3:(n:Int)<(k:Int):=by omega
    simp only[c3,gp,cS,cj g1,cj g2,cK,dI hf g1,f123_eq]
    cases ha:nH (c.cG[n]'(by omega)) p (g.dm[n]'(by omega)) f
    ·exact .inr ⟨_,rfl,rfl,λhF=>by have:=hF.fit.agr n k _ f _ p hn g1 e1 g2 e2;rw[ha]at this;cases this⟩
    ·refine .inl ⟨_,rfl,rfl,λi g' q eZ hg hq=>?_⟩
     by_cases gq:i<n
     ·exact hi i g' q gq hg hq
     ·have:i=n:=by omega
      subst this
      rw[List.getElem?_take_of_lt hn,g1]at hg
      rw[g2]at hq
      cases hg;cases hq
      exact ha
   ·rintro s ⟨rfl,hi⟩
    simp only[ky,dX,dj]
    exact⟨_,rfl,λi g' q hg hq=>hi i g' q (by have:=(fP.1 hg).1;omega) hg hq⟩
  obtain⟨o,k1,k2⟩:=key
  simp only[k1,cK]
  cases o with
  |inr x=>
   obtain⟨k2,k3⟩:=k2
   subst k2
   exact .inr ⟨_,rfl,rfl,k3⟩
  |inl _=>
   refine .inl ⟨_,rfl,rfl,?_⟩
   rw[cQ e1]
   exact hp.snoc (by rw[Ym];exact e2) c1.1 c1.2 c2 k2
 ·rintro s ⟨rfl,hp⟩
  simp only[ky,dX,dj]
  exact⟨_,rfl,by simpa using hp⟩
 intro o ho2
 cases o with
 |inr b=>obtain⟨rfl,h⟩:=ho2;exact⟨false,rfl,by simpa using h⟩
 |inl _=>
  obtain⟨b,hb,_⟩:=f121_ex h c g.dm hh.n4 hh.ba hl hd ho
  simp only[Ac,f121_one,hb,cK]
  refine⟨b,rfl,λe=>by subst e;exact⟨p1,p2,hl,ho2,hb⟩,λhF=>?_⟩
  have:=hF.sp
  rw[hb]at this
  exact Option.some.inj this
def mo(a b:bS):Prop:= ∀x∈b.held,∃(i j:Nat)(p:aW),gG (lM x) a.cG=(i:Int)/\gG (lM x) b.cG=(j:Int)/\a.cG[i]? =some p/\b.cG[j]? =some p
theorem f246_ex(a b:bS)(ha:bU a.cG)(hb:bU b.cG)(hh:bU b.held)(hr: ∀x∈b.held,b.cG.any (lM x)=true): ∃r,f246 a b=some r/\(r=true↔mo a b):=by
 have hh':b.held.length<=4194304:=hh
 unfold f246
 refine eK (λk(s:Int)=>s=(k:Int)/\ ∀x∈b.held.take k,∃(i j:Nat)(p:aW),gG (lM x) a.cG=(i:Int)/\gG (lM x) b.cG=(j:Int)/\a.cG[i]? =some p/\b.cG[j]? =some p) (λo=>match o with
  |.inl _=>mo a b
  |.inr r=>r=false/\ ¬mo a b) b.held.length hh' ⟨rfl,λx hx=>by simp at hx⟩ ?_ ?_ ?_
 ·rintro k s hk ⟨rfl,hi⟩
  have e1:b.held[k]? =some (b.held[k]'hk):=dH _
  generalize b.held[k]'hk=x at e1
  have hm:=gz e1
  simp only[cJ e1,cS,cj e1,cK,dI hh e1,f119_eq a x ha,f119_eq b x hb,xz]
  obtain⟨j,q,j1,j2,j3⟩:=rA (hr x hm)
  cases c1:a.cG.any (lM x)
  ·simp only[Hz,cS,cK]
   refine .inr ⟨_,rfl,rfl,λhF=>?_⟩
   obtain⟨i,j',p,h1,_⟩:=hF x hm
   have:=gb (p:=lM x) (l:=a.cG)
   rw[c1,h1]at this
   simp at this
  ·obtain⟨i,p,i1,i2,i3⟩:=rA c1
   simp only[p8,dj,i1,j1,cj i2,cj j2,cK,EM]
   by_cases hpq:p=q
   ·subst hpq
    simp only[gp,p8,dj]
    refine .inl ⟨_,rfl,rfl,λy hy=>?_⟩
    rw[cQ e1,lr]at hy
    rcases hy with hy|hy
    ·exact hi y hy
    ·simp at hy;subst hy
     exact⟨i,j,p,i1,j1,i2,j2⟩
   ·simp only[hpq,dX,Hz,cS]
    refine .inr ⟨_,rfl,rfl,λhF=>?_⟩
    obtain⟨i',j',p',h1,h2,h3,h4⟩:=hF x hm
    rw[i1]at h1;rw[j1]at h2
    have e1:i=i':=by omega
    have e2:j=j':=by omega
    subst e1;subst e2
    rw[i2]at h3;rw[j2]at h4
    cases h3;cases h4
    exact hpq rfl
 ·rintro s ⟨rfl,hi⟩
  simp only[ky,dX,dj]
  exact⟨_,rfl,λx hx=>hi x (by simpa using hx)⟩
 intro o ho
 cases o with
 |inr r=>obtain⟨rfl,h⟩:=ho;exact⟨false,rfl,by simpa using h⟩
 |inl _=>exact⟨true,rfl,by simpa using ho⟩
structure kb (c:bS):Prop where
 d:bU c.cG
 h:bU c.held
 o:bU c.di
theorem f196_ex(a b:bS)(ha:kb a)(hb:kb b): ∃r,f196 [a,b]=some r/\(r=0↔gn a/\gn b/\mo a b):=by
 unfold f196
 have c0: ¬(400<(([a,b]:List bS).length:Int)):=by simp
 simp only[c0,dX,dj]
 refine eK (λk(s:Int)=>s=(k:Int)/\(0<k->gn a)/\(1<k->gn b/\mo a b)) (λo=>match o with
  |.inl _=>gn a/\gn b/\mo a b
  |.inr r=>r=1/\ ¬(gn a/\gn b/\mo a b)) 2 (by omega) ⟨rfl,λh=>by omega,λh=>by omega⟩ ?_ ?_ ?_
 ·rintro k s hk ⟨rfl,h1,h2⟩
  obtain⟨ra,ea,pa⟩:=f59_ex a ha.d ha.h ha.o
  obtain⟨rb,eb,pb⟩:=f59_ex b hb.d hb.h hb.o
  have lx:k=0\/k=1:=by omega
  rcases lx with rfl|rfl
  ·have g0:ix ([a,b]:List bS) ((0:Nat):Int)=some a:=rfl
   have c1:(((0:Nat):Int)<(([a,b]:List bS).length:Int)):=by simp
   have c2: ¬((0:Int)<((0:Nat):Int)):=by simp
   simp only[c1,gp,cS,g0,cK,ea,c2,dX,dj]
   rw[gH (by omega)]
   cases ra
   ·exact .inr ⟨_,rfl,rfl,λh=>by have:=pa.2 h.1;cases this⟩
   ·exact .inl ⟨_,rfl,rfl,λ_=>pa.1 rfl,λh=>by omega⟩
  ·have g0:ix ([a,b]:List bS) ((1:Nat):Int)=some b:=rfl
   have g1:ix ([a,b]:List bS) (wr (((1:Nat):Int)-1))=some a:=rfl
   have c1:(((1:Nat):Int)<(([a,b]:List bS).length:Int)):=by simp
   have c2:((0:Int)<((1:Nat):Int)):=by simp
   simp only[c1,gp,cS,g0,g1,cK,eb,c2]
   rw[gH (by omega)]
   cases rb
   ·exact .inr ⟨_,rfl,rfl,λh=>by have:=pb.2 h.2.1;cases this⟩
   ·have hrb:=pb.1 rfl
    obtain⟨rf,ef,pf⟩:=f246_ex a b ha.d hb.d hb.h hrb.hd
    simp only[p8,dj,ef,cK]
    cases rf
    ·exact .inr ⟨_,rfl,rfl,λh=>by have:=pf.2 h.2.2;cases this⟩
    ·exact .inl ⟨_,rfl,rfl,λ_=>h1 (by omega),λ_=>⟨hrb,pf.1 rfl⟩⟩
 ·rintro s ⟨rfl,h1,h2⟩
  have c1: ¬(((2:Nat):Int)<(([a,b]:List bS).length:Int)):=by simp
  simp only[c1,dX,dj]
  exact⟨_,rfl,h1 (by omega),h2 (by omega)⟩
 intro o ho
 cases o with
 |inr r=>obtain⟨rfl,h⟩:=ho;exact⟨1,rfl,by simpa using h⟩
 |inl _=>exact⟨0,rfl,by simpa using ho⟩
theorem f197_ex(c:bS)(g:cr)(f:Int)(hl:g.dm.length=c.cG.length)(hs:bU c.cG): ∃l,f197 c g f=some l/\bU l:=by
 have nN:c.cG.length<=4194304:=hs
 unfold f197
 refine eK (λk(s:List aW×Int)=>s.2=(k:Int)/\s.1.length<=k) (λl=>bU l) g.dm.length (by omega) ⟨rfl,by simp⟩ ?_ ?_ ?_
 ·rintro k ⟨s1,s2⟩ hk ⟨e,h1⟩
  simp only at e h1
  subst e
  have e1:g.dm[k]? =some (g.dm[k]'hk):=dH _
  have e2:c.cG[k]? =some (c.cG[k]'(by omega)):=dH _
  have m1:s1.length+1<=bJ:=by unfold bJ;omega
  simp only[cJ e1,cS,cj e1,cj e2,cK,dI (l:=g.dm) (by simp only[bU];omega) e1,dg m1]
  cases decide (g.dm[k]'hk=f)
  ·exact .inl ⟨_,rfl,rfl,by show s1.length<=k+1;omega⟩
  ·exact .inl ⟨_,rfl,rfl,by simp;omega⟩
 ·rintro⟨s1,s2⟩ ⟨e,h1⟩
  simp only at e h1
  subst e
  simp only[ky,dX,dj]
  exact⟨_,rfl,by simp only[bU];omega⟩
 ·intro l hl
  exact⟨l,rfl,hl⟩
theorem f190_2_ex(l m:List aW)(hl:bU l)(hm:bU m): ∃b,f190_2 l m=some b/\True:=by
 have h1: ∀y,f315 y m=some (m.any λz=>gY y z):=by
  intro y
  unfold f315 f316 f327
  rw[ey m (λz=>gY y z) (λi _=>(i:Int)) hm]
  ·simp only[cK,fC]
   rw[<-gb]
   unfold gG
   cases m.findIdx? _<;>simp
  ·intro i z hz
   simp only[cJ hz,cS,cj hz,cK]
   cases gY y z<;>rfl
  ·simp
 unfold f190_2 f185_3
 rw[ey l (λy=>m.any λz=>gY y z) (λi _=>(i:Int)) hl]
 ·simp only[cK,fC]
  cases l.findIdx? _<;>exact⟨_,rfl,trivial⟩
 ·intro i y hy
  simp only[cJ hy,cS,cj hy,cK,h1]
  cases m.any λz=>gY y z<;>rfl
 ·simp
structure CR (h:eA) (a:bS) (g:cr) (b:bS) (k:cr):Prop where
 hold: ∀x∈b.held,∀i j:Nat,gG (lM x) a.cG=(i:Int)->gG (lM x) b.cG=(j:Int)->g.dm[i]? =k.dm[j]?
 move: ¬(0<a.cG.length/\0<b.cG.length/\h.jump<kM (wr (g.pos-k.pos)) (wr (k.pos-g.pos)))
theorem f278_ex(h:eA)(hh:nG h)(a:bS)(g:cr)(b:bS)(k:cr)(ha:kb a)(hb:kb b)(fa:Fit h a g)(fb:Fit h b k)(hf:mo a b): ∃r,f278 h a g b k=some r/\(r.2=true↔CR h a g b k):=by
 have hbh:b.held.length<=4194304:=hb.h
 have hn4:=hh.n4
 unfold f278
 refine eK (λn(s:Int)=>s=(n:Int)/\ ∀x∈b.held.take n,∀i j:Nat,gG (lM x) a.cG=(i:Int)->gG (lM x) b.cG=(j:Int)->g.dm[i]? =k.dm[j]?) (λo=>match o with
  |.inl _=> ∀x∈b.held,∀i j:Nat,gG (lM x) a.cG=(i:Int)->gG (lM x) b.cG=(j:Int)->g.dm[i]? =k.dm[j]?
  |.inr r=>r.2=false/\ ¬CR h a g b k) b.held.length hbh ⟨rfl,λx hx=>by simp at hx⟩ ?_ ?_ ?_
 ·rintro n s hn ⟨rfl,hi⟩
  have e1:b.held[n]? =some (b.held[n]'hn):=dH _
  generalize b.held[n]'hn=x at e1
  have hm:=gz e1
  obtain⟨i,j,p,i1,j1,i2,j2⟩:=hf x hm
  have sO:=(fP.1 i2).1
  have KR:=(fP.1 j2).1
  have g1:g.dm[i]? =some (g.dm[i]'(by rw[fa.len];exact sO)):=dH _
  have g2:k.dm[j]? =some (k.dm[j]'(by rw[fb.len];exact KR)):=dH _
  generalize g.dm[i]'(by rw[fa.len];exact sO)=y1 at g1
  generalize k.dm[j]'(by rw[fb.len];exact KR)=y2 at g2
  simp only[cJ e1,cS,cj e1,cK,dI hb.h e1,f119_eq a x ha.d,f119_eq b x hb.d,i1,j1,cj g1,cj g2]
  by_cases hy:y1=y2
  ·subst hy
   simp only[pU,tt,dX,dj]
   refine .inl ⟨_,rfl,rfl,λy hy i' j' h1 h2=>?_⟩
   rw[cQ e1,lr]at hy
   rcases hy with hy|hy
   ·exact hi y hy i' j' h1 h2
   ·simp at hy;subst hy
    have ei:i'=i:=by omega
    have ej:j'=j:=by omega
    subst ei;subst ej
    rw[g1,g2]
  ·simp only[pU,hy,Hw,gp,cS]
   refine .inr ⟨_,rfl,rfl,λhS=>?_⟩
   have:=hS.hold x hm i j i1 j1
   rw[g1,g2]at this
   exact hy (Option.some.inj this)
 ·rintro s ⟨rfl,hi⟩
  simp only[ky,dX,dj]
  exact⟨_,rfl,λx hx=>hi x (by simpa using hx)⟩
 intro o ho
 cases o with
 |inr r=>obtain⟨h1,h2⟩:=ho;exact⟨r,rfl,by rw[h1];simpa using h2⟩
 |inl _=>
 simp only at ho
 simp only[Ac,f198,cK]
 generalize Dt:kM (wr (g.pos-k.pos)) (wr (k.pos-g.pos))=mv
 refine iw (P1:=λj=>j=true↔(0<a.cG.length/\0<b.cG.length)) ?_ ?_
 ·by_cases c1:0<(a.cG.length:Int)
  ·by_cases c2:0<(b.cG.length:Int)
   ·simp only[c1,c2,gp,cS]
    exact⟨_,rfl,by simp;omega⟩
   ·simp only[c1,c2,gp,dX,cS]
    exact⟨_,rfl,⟨λh=>(by cases h),λh=>(by omega)⟩⟩
  ·simp only[c1,dX,dj]
   exact⟨_,rfl,⟨λh=>(by cases h),λh=>(by omega)⟩⟩
 intro j2 UL
 refine iw (P1:=λj=>j=true↔(0<a.cG.length/\0<b.cG.length/\h.jump<mv)) ?_ ?_
 ·cases j2
  ·exact⟨false,rfl,⟨λh=>(by cases h),λh=>absurd (UL.2 ⟨h.1,h.2.1⟩) (by simp)⟩⟩
  ·have:=UL.1 rfl
   refine⟨decide (h.jump<mv),rfl,?_⟩
   simp[this]
 intro j3 hj3
 cases j3
 case true=>
  refine⟨_,rfl,?_⟩
  simp
  intro hS
  exact hS.move (by rw[Dt];exact hj3.1 rfl)
 simp only[dj]
 have hS:CR h a g b k:=⟨ho,λhm=>by rw[Dt]at hm;have:=hj3.2 hm;cases this⟩
 refine iw (P1:=λ_=>True) ?_ ?_
 ·refine iw (P1:=λ_=>True) ?_ λb _=>?_
  ·cases j2
   ·exact⟨_,rfl,trivial⟩
   ·exact⟨_,rfl,trivial⟩
  ·cases b<;>exact⟨_,rfl,trivial⟩
 intro cost _
 refine eK (λn(s:Int×Int)=>s.2=((n+1:Nat):Int)) (λ_=>True) h.low.length (by omega) rfl ?_ ?_ ?_
 ·rintro n ⟨s1,s2⟩ hn e
  simp only at e
  subst e
  have c0:((n+1:Nat):Int)<=(h.low.length:Int):=by omega
  simp only[c0,gp,cS,cK]
  cases j2
  ·exact .inr ⟨_,rfl,trivial⟩
  obtain⟨l1,e1,p1⟩:=f197_ex a g ((n+1:Nat):Int) fa.len ha.d
  obtain⟨l2,e2,p2⟩:=f197_ex b k ((n+1:Nat):Int) fb.len hb.d
  obtain⟨bb,e3,_⟩:=f190_2_ex l1 l2 p1 p2
  simp only[e1,e2,e3,cK,cS]
  rw[gH (by omega)]
  cases decide (0<(l1.length:Int))
  ·exact .inl ⟨_,rfl,rfl⟩
  cases decide (0<(l2.length:Int))
  ·exact .inl ⟨_,rfl,rfl⟩
  cases bb<;>exact .inl ⟨_,rfl,rfl⟩
 ·rintro⟨s1,s2⟩ e
  simp only at e
  subst e
  have c0: ¬(((h.low.length+1:Nat):Int)<=(h.low.length:Int)):=by omega
  simp only[c0,dX,dj,cK]
  exact⟨_,rfl,trivial⟩
 ·intro r _
  exact⟨_,rfl,by simpa using hS⟩
structure Steps (h:eA) (a:bS) (g:cr) (b:bS) (k:cr):Prop where
 ra:gn a
 rb:gn b
 fo:mo a b
 fa:Fit h a g
 fb:Fit h b k
 st:CR h a g b k
theorem f228_ex(h:eA)(hh:nG h)(h0:f39 h=some 0)(a:bS)(g:cr)(b:bS)(k:cr)(ha:kb a)(hb:kb b)(sg:bU g.dm)(sk:bU k.dm): ∃r,f228 h a g b k=some r/\(r.2=0↔Steps h a g b k):=by
 unfold f228
 rw[h0]
 simp only[cK,pU,tt,dX,dj]
 refine iw (f196_ex a b ha hb) λr hr=>?_
 by_cases c1:r=0
 ·subst c1
  obtain⟨r1,r2,r3⟩:=hr.1 rfl
  simp only[tt,dX,dj]
  refine iw (P1:=λj=>j=false↔(Fit h a g/\Fit h b k)) ?_ ?_
  ·refine iw (f277_ex h hh a g ha.d sg ha.o) λb1 h1=>?_
   cases b1
   ·exact⟨true,rfl,by simp at h1 |-;exactλh=>absurd h h1⟩
   ·refine iw (f277_ex h hh b k hb.d sk hb.o) λb2 h2=>⟨!b2,rfl,?_⟩
    have:=h1.1 rfl
    cases b2<;>simp_all
  intro j hj
  cases j
  ·obtain⟨f1,f2⟩:=hj.1 rfl
   simp only[dj]
   refine iw (f278_ex h hh a g b k ha hb f1 f2 r3) λr hr=>?_
   obtain⟨n,ok⟩:=r
   cases ok
   ·refine⟨_,rfl,?_⟩
    simp at hr |-
    exactλh=>hr h.st
   ·exact⟨_,rfl,by simp;exact⟨r1,r2,r3,f1,f2,hr.1 rfl⟩⟩
  ·refine⟨_,rfl,?_⟩
   simp at hj |-
   exactλh=>hj h.fa h.fb
 ·simp only[c1,Hw,gp,cS]
  exact⟨_,rfl,λh=>absurd h c1,λh=>absurd (hr.2 ⟨h.ra,h.rb,h.fo⟩) c1⟩
end Go.Proofs.YtpbahncblggodaaGreat
