/- Plain laws, joined by gen/joinH.py. -/
import Derived.Test.YtfdnjgoegamonaaGreatDoorLq
import Derived.Test.YtfdnjgoegamonaaGreatDoorTD
set_option linter.all false
namespace Go.Am
open Go.RowKit
theorem Jm{σ τ:Type}{body:σ->Option (σ⊕τ)}(Inv:Nat->σ->Prop)(lH:τ->Prop)(n:Nat)
  (hb: ∀k s,k<n->Inv k s->(∃s',body s=some (.inl s')/\Inv (k+1) s')\/(∃r,body s=some (.inr r)/\lH r))
  (he: ∀s,Inv n s-> ∃r,body s=some (.inr r)/\lH r): ∀(d k F:Nat)(s:σ),k+d=n->d<F->Inv k s-> ∃r,cA body F s=some r/\lH r
 |0,k,F,s,hk,hF,hi=>by
  have:k=n:=by omega
  subst this;obtain⟨r,h1,h2⟩:=he s hi;cases F with
  |zero=>omega
  |succ F=>exact⟨r,by simp only[cA,h1],h2⟩
 |d+1,k,F,s,hk,hF,hi=>by
  cases F with
  |zero=>omega
  |succ F=>
   rcases hb k s (by omega) hi with⟨s',h1,h2⟩|⟨r,h1,h2⟩
   ·obtain⟨r,h3,h4⟩:=Jm Inv lH n hb he d (k+1) F s' (by omega) (by omega) h2;exact⟨r,by simp only[cA,h1,h3],h4⟩
   ·exact⟨r,by simp only[cA,h1],h2⟩
theorem jQ{σ τ:Type}{body:σ->Option (σ⊕τ)}(Inv:Nat->σ->Prop)(lH:τ->Prop)(n:Nat){s0:σ}(hn:n<=4194304)(h0:Inv 0 s0)
  (hb: ∀k s,k<n->Inv k s->(∃s',body s=some (.inl s')/\Inv (k+1) s')\/(∃r,body s=some (.inr r)/\lH r))
  (he: ∀s,Inv n s-> ∃r,body s=some (.inr r)/\lH r): ∃r,cA body cQ s0=some r/\lH r:=
 Jm Inv lH n hb he n 0 cQ s0 (by omega) (by unfold cQ;omega) h0
theorem fR{α β:Type}{x:Option α}{f:α->Option β}{P1:α->Prop}{P:β->Prop}(h1: ∃r,x=some r/\P1 r)(h2: ∀r,P1 r-> ∃z,f r=some z/\P z): ∃z,x.bind f=some z/\P z:=by
 obtain⟨r,e,hr⟩:=h1;subst e;exact h2 r hr
theorem B0{α:Type}{p:Prop}[Decidable p]{x:Option α}{P:α->Prop}(h:p)(k: ∃z,x=some z/\P z): ∃z,cB p x=some z/\P z:=by
 unfold cB;rw[dP h];exact k
theorem cX{α:Type}{p:Prop}[Decidable p]{x:Option α}(h:p):cB p x=x:=dP h
theorem QT{α:Type}{l:List α}{i:Int}{x:α}(k:Nat)(hi:i=(k:Int))(h:l[k]? =some x):ix l i=some x:=by subst hi;exact cJ h
theorem kZ{α:Type}{b:Bool}{x y:Option α}{P:α->Prop}(h1:b=true-> ∃z,x=some z/\P z)(h2:b=false-> ∃z,y=some z/\P z): ∃z,(bif b then x else y)=some z/\P z:=by
 cases b
 ·exact h2 rfl
 ·exact h1 rfl
theorem iZ{n:Int}(h1: -9223372036854775808<=n)(h2:n<=9223372036854775807):wr n=n:=Fk h1 h2
theorem fc{σ τ β:Type}{body:σ->Option (σ⊕τ)}{f:τ->Option β}{P:β->Prop}{s0:σ}(Inv:Nat->σ->Prop)(lH:τ->Prop)(n:Nat)(hn:n<=4194304)(h0:Inv 0 s0)
  (hb: ∀k s,k<n->Inv k s->(∃s',body s=some (.inl s')/\Inv (k+1) s')\/(∃r,body s=some (.inr r)/\lH r))
  (he: ∀s,Inv n s-> ∃r,body s=some (.inr r)/\lH r) (k: ∀r,lH r-> ∃z,f r=some z/\P z): ∃z,(cA body cQ s0).bind f=some z/\P z:=
 fR (jQ Inv lH n hn h0 hb he) k
end Go.Am
set_option linter.all false
namespace Go.Proofs.YtfdnjgoegamonaaGreatDoor
open Go Go.Am
set_option maxRecDepth 100000
theorem f66_eq(a lo hi:Int):f66 a lo hi=some (decide (lo<=a)&&decide (a<=hi)):=by
 unfold f66;cases decide (lo<=a)<;>rfl
def om(a lo hi:Int):Bool:=decide (lo<=a)&&decide (a<=hi)
theorem f34_eq(a lo hi:Int):f34 a lo hi=some (om a lo hi):=by
 unfold f34 om;cases decide (lo<=a)<;>rfl
theorem f24_eq(a lo hi:Int):f24 a lo hi=some (om a lo hi):=f34_eq a lo hi
theorem Zq(a b:Bool):(bif a then some true else some b)=some (a||b):=by cases a<;>rfl
theorem nK{α:Type}(l:List α)(p:α->Bool):l.any (λx=>!p x)=!(l.all p):=by simp[List.any_eq_not_all_not]
def N1(e:Int)(t:cj):Bool:=!(om t.cw 0 127)||(decide (t.cy<e)||(decide (t.dK<=t.cy)||decide (262144<t.dK)))
def KV:Int->List cj->Bool
 |_,[]=>true
 |e,t::r=>!(N1 e t)&&KV t.dK r
def B1(l:List (List cj)):Bool:=decide (6<l.length)||l.any λp=>decide (400<p.length)
def oq(l:List (List cj)):Int:=if B1 l then 2 else if l.all (KV 0)then 0 else 80
theorem f142_eq(l:List (List cj))(hs:cH l):f142 l=some (iF (λp=>decide (400<p.length)) l):=by
 unfold f142;rw[fZ l (λp=>decide (400<p.length)) (λi _=>(i:Int)) hs]
 ·simp only[dm,gJ,iF];cases l.findIdx? _<;>simp
 ·intro i y hy;have e:decide (400<(y.length:Int))=decide (400<y.length):=by simp;omega
  simp only[dr hy,dt,cJ hy,dm,f99,e];cases decide (400<y.length)<;>rfl
 ·simp
theorem f98_eq(l:List (List cj))(hs:cH l):f98 l=some (l.any λp=>decide (400<p.length)):=by
 unfold f98;rw[f142_eq l hs];simp only[dm,gz]
def stepT{τ:Type}(c:τ):Nat->Int->cj->Int⊕(Unit⊕τ):=λ_ e t=>bif N1 e t then .inr (.inr c)else .inl t.dK
theorem Sa{τ:Type}(c:τ): ∀(l:List cj)(k:Nat)(e:Int),kG (stepT c) (λ_=>.inl ()) k l e=bif KV e l then .inl ()else .inr c
 | [],_,_=>rfl
 |t::r,k,e=>by
  simp only[kG,stepT,KV];cases N1 e t with
  |true=>rfl
  |false=>simp only[dD];rw[Sa c r];rfl
theorem f65_eq(l:List (List cj))(hs:cH l):f65 l=some (oq l):=by
 have Xy:((bif (decide (6<(l.length:Int)))then(some true)else((f98 l).bind λr2=>some r2)):Option Bool)=some (B1 l):=by
  rw[f98_eq l hs];unfold B1;have e:decide (6<(l.length:Int))=decide (6<l.length):=by simp;omega
  rw[e];cases decide (6<l.length)<;>rfl
 unfold f65;rw[Xy];simp only[dm];cases hm:B1 l with
 |true=>simp[oq,hm]
 |false=>
  simp only[dD];have dJ: ∀p∈l,p.length<=400:=λp hp=>by
   simp only[B1,JQ,Vf,AE]at hm;have:=hm.2 p hp;omega
  rw[fZ l (λp=>!(KV 0 p)) (λ_ _=>80) hs]
  ·simp only[dm,BW,oq,hm,nK];cases l.all (KV 0)<;>rfl
  ·intro i p hp;have Sb:cH p:=by have:=dJ p (gT hp);simp only[cH];omega
   simp only[dr hp,dt,cJ hp,dm];rw[kH (λ(e:Int)i=>(e,i)) (stepT (τ:=Int⊕(Unit⊕Int)) (.inr (.inr 80))) (λ_=>.inl ()) p (λ_ _=>True) 0 (jO Sb) trivial]
   ·rw[Sa];cases KV 0 p<;>rfl
   ·intro j e t ht _;refine⟨?_,λ_ _=>trivial⟩;simp only[dr ht,dt,cJ ht,dm,f24_eq,stepT,N1,eT Sb ht];cases om t.cw 0 127<;>cases decide (t.cy<e)<;>cases decide (t.dK<=t.cy)<;>cases decide (262144<t.dK)<;>rfl
   ·intro e _;simp
  ·simp
theorem kJ{l:List (List cj)}(h:oq l=0):l.length<=6/\ ∀p∈l,p.length<=400/\KV 0 p=true:=by
 unfold oq at h;split at h
 ·cases h
 ·rename_i h1;split at h
  ·rename_i h2;simp only[B1,tY,AE,AO,not_or,not_exists,not_and]at h1;exact⟨by omega,λp hp=>⟨by have:=h1.2 p hp;omega,pA.1 h2 p hp⟩⟩
  ·cases h
theorem HM(a b:Nat):decide ((a:Int)<(b:Int))=decide (a<b):=by
 by_cases h:a<b
 ·have:(a:Int)<b:=by omega
  simp[h,this]
 ·have: ¬(a:Int)<b:=by omega
  simp[h,this]
def mC:Int->List Int->Bool
 |_,[]=>true
 |e,y::r=>!(decide (y<=e)||decide (127<y))&&mC y r
def HN(s:List Int)(c:cT):Int:=bif decide (0<c.eZ)then wr (c.cw+(s[(c.eZ-1).toNat]?).getD 0)else c.cw
def KW(s:List Int)(c:cT):Int:=bif c.iX then wr (HN s c+12)else HN s c
def jY(s:List Int)(c:cT):Int:=
 bif decide (c.eZ<0)||decide ((s.length:Int)<c.eZ)then 13 else bif decide (c.cw<0)||(decide (127<c.cw)||decide (127<KW s c))then 10 else 0
def HO(s:List Int)(c:cT):Bool:=decide (jY s c≠0)
def instS(a:bY):Int:=
 bif decide (14<a.cS.length)||decide (18<a.cu.length)then 2 else bif decide (a.cS.length=0)then 11 else bif mC 0 a.cu then
  (match a.cS.find? (HO a.cu)with
   |some c=>jY a.cu c
   |none=>0)
 else 11
theorem f64_eq(a:bY)(c:cT)(h1:c.eZ<=(a.cu.length:Int))(h2:a.cu.length<=18):f64 a c=some (KW a.cu c):=by
 unfold f64 KW HN;by_cases h:0<c.eZ
 ·have hw:wr (c.eZ-1)=(((c.eZ-1).toNat:Nat):Int):=by rw[Fk (by omega) (by omega)];omega
  have hl:(c.eZ-1).toNat<a.cu.length:=by omega
  have hg:a.cu[(c.eZ-1).toNat]? =some a.cu[(c.eZ-1).toNat]:=dR hl;have hd:decide (0<c.eZ)=true:=by simpa using h
  simp only[hd,dt,hw,cJ hg,hg,dm,Ce];cases c.iX<;>rfl
 ·have hd:decide (0<c.eZ)=false:=by simpa using h
  simp only[hd,dD,dm];cases c.iX<;>rfl
theorem z6: ∀(l:List Int)(k:Nat)(e:Int),kG (λ_(e:Int)y=>(bif decide (y<=e)||decide (127<y)then .inr (.inr 11)else .inl y:Int⊕(Unit⊕Int))) (λ_=>.inl ()) k l e=bif mC e l then .inl ()else .inr 11
 | [],_,_=>rfl
 |y::r,k,e=>by
  simp only[kG,mC];cases(decide (y<=e)||decide (127<y))with
  |true=>rfl
  |false=>simp only[dD,Lz,U9];exact z6 r (k+1) y
theorem Us(a b:Nat):((bif (decide (14<(a:Int)))then(some true)else(some (decide (18<(b:Int))))):Option Bool)=some (decide (14<a)||decide (18<b)):=by
 have e1:decide (14<(a:Int))=decide (14<a):=HM 14 a;have e2:decide (18<(b:Int))=decide (18<b):=HM 18 b;rw[e1,e2];cases decide (14<a)<;>rfl
theorem aaN{α:Type}(l:List α):decide ((l.length:Int)=0)=decide (l.length=0):=by
 by_cases h:l.length=0
 ·simp[h]
 ·have: ¬(l.length:Int)=0:=by omega
  simp[h,this]
theorem f31_eq(a:bY):f31 a=some (instS a):=by
 unfold f31 instS;rw[Us,aaN];simp only[dm];cases hm:(decide (14<a.cS.length)||decide (18<a.cu.length))with
 |true=>rfl
 |false=>
  simp only[JQ,O6]at hm;have hs:cH a.cu:=by simp only[cH];omega
  have hc:cH a.cS:=by simp only[cH];omega
  simp only[dD];cases decide (a.cS.length=0)with
  |true=>rfl
  |false=>
   simp only[dD];rw[kH (λ(e:Int)i=>(e,i)) (λ_(e:Int)y=>(bif decide (y<=e)||decide (127<y)then .inr (.inr 11)else .inl y:Int⊕(Unit⊕Int))) (λ_=>.inl ()) a.cu (λ_ _=>True) 0 (jO hs) trivial]
   ·rw[z6];simp only[dm];cases mC 0 a.cu with
    |false=>rfl
    |true=>
     simp only[dt,vn];rw[fZ a.cS (HO a.cu) (λ_ c=>jY a.cu c) hc]
     ·simp only[dm,tx];cases a.cS.find? (HO a.cu)<;>rfl
     ·intro i c hcc;simp only[dr hcc,dt,cJ hcc,dm,Zq,HO];cases hb:(decide (c.eZ<0)||decide ((a.cu.length:Int)<c.eZ))with
      |true=>
       have:jY a.cu c=13:=by unfold jY;rw[hb];rfl
       rw[this];rfl
      |false=>
       have oM:=hb;simp only[JQ,O6]at hb;simp only[dD,f64_eq a c (by omega) (by omega),dm,Zq];cases wE:(decide (c.cw<0)||(decide (127<c.cw)||decide (127<KW a.cu c)))with
       |true=>
        have:jY a.cu c=10:=by unfold jY;rw[oM,wE];rfl
        rw[this];rfl
       |false=>
        have:jY a.cu c=0:=by unfold jY;rw[oM,wE];rfl
        rw[this];rfl
     ·simp
   ·intro i e y hy _;refine⟨?_,λ_ _=>trivial⟩;simp only[dr hy,dt,cJ hy,dm,Zq,eT hs hy];cases(decide (y<=e)||decide (127<y))<;>rfl
   ·intro e _;simp
theorem instS_ok{a:bY}(h:instS a=0):a.cS.length<=14/\a.cu.length<=18/\0<a.cS.length/\mC 0 a.cu=true/\ ∀c∈a.cS,jY a.cu c=0:=by
 unfold instS at h;cases hm:(decide (14<a.cS.length)||decide (18<a.cu.length))with
 |true=>rw[hm]at h;cases h
 |false=>
  rw[hm]at h;simp only[JQ,O6]at hm;simp only[dD]at h;cases h0:decide (a.cS.length=0)with
  |true=>rw[h0]at h;cases h
  |false=>
   rw[h0]at h;simp only[dD]at h;cases iA:mC 0 a.cu with
   |false=>rw[iA]at h;cases h
   |true=>
    rw[iA]at h;simp only[dt]at h;simp only[O6]at h0;refine⟨by omega,by omega,by omega,rfl,λc hc=>?_⟩;cases hf:a.cS.find? (HO a.cu)with
    |some d=>
     rw[hf]at h;have:=List.find?_some hf;simp only[HO,AE]at this;exact absurd h this
    |none=>
     have:=List.find?_eq_none.1 hf c hc;simpa[HO]using this
theorem nA{s:List Int}{c:cT}(h:jY s c=0):0<=c.eZ/\c.eZ<=(s.length:Int)/\0<=c.cw/\c.cw<=127/\KW s c<=127:=by
 unfold jY at h;cases hb:(decide (c.eZ<0)||decide ((s.length:Int)<c.eZ))with
 |true=>rw[hb]at h;cases h
 |false=>
  rw[hb]at h;cases wE:(decide (c.cw<0)||(decide (127<c.cw)||decide (127<KW s c)))with
  |true=>rw[wE]at h;cases h
  |false=>
   simp only[JQ,O6]at hb wE;omega
def ku(s:List Int)(c:cT)(k:Nat):Int:=if k=0 then c.cw else wr (c.cw+(s[k-1]?).getD 0)
def mP(s:List Int)(p:Int)(i:Nat)(c:cT)(n:Nat):List be:=((List.range n).filter λk=>decide (ku s c k=p)).map λ(k:Nat)=>(⟨((i+1:Nat):Int),(k:Int)⟩:be)
def jC(s:List Int)(p:Int):Nat->List cT->List be
 |_,[]=>[]
 |i,c::r=>mP s p i c (c.eZ.toNat+1)++jC s p (i+1) r
def fx(a:bY)(p:Int):List be×Int:=
 if instS a=0 then(bif decide (p<0)||decide (127<p)then([],10)else(jC a.cu p 0 a.cS,0))else([],instS a)
theorem KY(s:List Int)(p:Int)(i:Nat)(c:cT)(n:Nat):mP s p i c (n+1)=mP s p i c n++(bif decide (ku s c n=p)then [⟨((i+1:Nat):Int),(n:Int)⟩]else []):=by
 unfold mP;rw[List.range_succ,Gd,Cf];cases h:decide (ku s c n=p)<;>simp[h]
theorem z7(s:List Int)(p:Int)(i:Nat)(c:cT)(n:Nat):(mP s p i c n).length<=n:=by
 unfold mP;rw[nE];exact xz (tQ _ _) (by simp)
theorem f89_eq(a:bY)(c:cT)(k:Nat)(h:(k:Int)<=c.eZ)(h1:c.eZ<=(a.cu.length:Int))(h2:a.cu.length<=18):f89 a c (k:Int)=some (ku a.cu c k):=by
 unfold f89 ku;by_cases h0:k=0
 ·subst h0;rfl
 ·have hd:decide ((k:Int)=0)=false:=by simp;omega
  have hw:wr ((k:Int)-1)=((k-1:Nat):Int):=by rw[Fk (by omega) (by omega)];omega
  have hg:a.cu[k-1]? =some a.cu[k-1]:=dR (by omega);rw[hd,dD,hw,cJ hg,dY h0,hg];rfl
theorem wW(s:List Int)(p:Int): ∀(l:List cT)(i:Nat)(a:List be),kG (λi a(c:cT)=>(.inl (a++mP s p i c (c.eZ.toNat+1)):List be⊕List be)) (λa=>a) i l a=a++jC s p i l
 | [],_,_=>by simp[kG,jC]
 |c::r,i,a=>by simp only[kG,wW s p r,jC,Ig]
theorem f200_eq(a:bY)(p:Int):f200 a p=some (fx a p):=by
 unfold f200 fx;rw[f31_eq];simp only[dm,Zq];by_cases hi:instS a=0
 ·obtain⟨i1,i2,i3,i4,i5⟩:=instS_ok hi;have hd:decide (instS a≠0)=false:=by simpa using hi
  have s8:cH a.cS:=by simp only[cH];omega
  rw[hd,dD,dP hi];cases(decide (p<0)||decide (127<p))with
  |true=>rfl
  |false=>
   simp only[dD];rw[kH (λ(x:List be)i=>(x,i)) (λi x(c:cT)=>(.inl (x++mP a.cu p i c (c.eZ.toNat+1)):List be⊕List be)) (λx=>x) a.cS (λi x=>x.length<=19*i) [] (jO s8) (by simp)]
   ·rw[wW];simp
   ·intro i x c hc hx;have vo:=(fT.1 hc).1;obtain⟨k1,k2,k3,k4,k5⟩:=nA (i5 c (gT hc));constructor
    ·simp only[dr hc,dt,cJ hc,dm,eT s8 hc];rw[mh (λk=>(x++mP a.cu p i c k,(k:Int))) (c.eZ.toNat+1) (by omega) (by simp[mP]) (r:=x++mP a.cu p i c (c.eZ.toNat+1))]
     ·rfl
     ·intro k hk;have eP:decide ((k:Int)<=c.eZ)=true:=by simp;omega
      have hl:=z7 a.cu p i c k;have hm:(x++mP a.cu p i c k).length+1<=bQ:=by rw[lu];unfold bQ;omega
      have hw:wr ((k:Int)+1)=((k+1:Nat):Int):=fH (by omega);simp only[eP,dt,f89_eq a c k (by omega) k2 i2,dm,hw,cB,dP hm,KY];cases decide (ku a.cu c k=p)with
      |true=>simp
      |false=>simp
     ·have eP:decide (((c.eZ.toNat+1:Nat):Int)<=c.eZ)=false:=by simp;omega
      simp only[eP,dD]
    ·intro x' he;cases he;have hl:=z7 a.cu p i c (c.eZ.toNat+1);rw[lu];omega
   ·intro x _;simp
 ·have hd:decide (instS a≠0)=true:=by simpa using hi
  rw[hd,dY hi];rfl
def wa(l:List (List cj))(a:bY):Int:=if oq l=0 then instS a else oq l
theorem f32_eq(l:List (List cj))(a:bY)(hl:cH l):f32 l a=some (wa l a):=by
 unfold f32 wa;rw[f65_eq l hl,f31_eq];simp only[dm];by_cases h:oq l=0<;>simp[h]
theorem N2{l:List (List cj)}{a:bY}(h:wa l a=0):oq l=0/\instS a=0:=by
 unfold wa at h;split at h
 ·rename_i h1;exact⟨h1,h⟩
 ·rename_i h1;exact absurd h h1
theorem wX(s:List Int)(p:Int): ∀(l:List cT)(i:Nat),(∀c∈l,c.eZ.toNat<=18)->(jC s p i l).length<=19*l.length
 | [],i,_=>by simp[jC]
 |c::r,i,h=>by
  have h1:=wX s p r (i+1) λd hd=>h d (JO _ hd);have h2:=z7 s p i c (c.eZ.toNat+1);have h3:=h c (by simp);simp only[jC,lu,oC];omega
theorem z8{l:List (List cj)}: ∀(n:Nat),l.length<=n->(∀p∈l,p.length<=400)->l.flatten.length<=400*n:=by
 induction l with
 |nil=>intro n _ _;simp
 |cons p l ih=>
  intro n hn h;cases n with
  |zero=>simp at hn
  |succ n=>
   have h1:=h p (by simp);have h2:=ih n (by simpa using hn) λq hq=>h q (JO _ hq);simp only[V3,lu];omega
theorem B2{l:List (List cj)}{k:Nat}{p:List cj}(h:l[k]? =some p):(l.take (k+1)).flatten=(l.take k).flatten++p:=by
 rw[dj h,V4];simp
theorem iP(l:List (List cj))(k:Nat):(l.take k).flatten.length<=l.flatten.length:=by
 conv=>rhs;rw[<-Lk k l,V4,lu]
 omega
theorem f68_eq(l:List (List cj))(h6:l.length<=6)(h4: ∀p∈l,p.length<=400):f68 l=some l.flatten:=by
 have hs:cH l:=by simp only[cH];omega
 have pI:=z8 6 h6 h4;unfold f68;rw[mh (λk=>(((l.take k).flatten.length:Int),(k:Int))) l.length (by omega) (by simp) (r:=(l.flatten.length:Int))]
 ·have DT:f101 (l.flatten.length:Int)=some []:=by unfold f101;rw[dP (by omega)]
  rw[dm,DT,dm];rw[mh (λk=>((l.take k).flatten,(k:Int))) l.length (by omega) (by simp) (r:=l.flatten)]
  ·rfl
  ·intro k hk;have hg:l[k]? =some (l[k]'hk):=dR hk;generalize l[k]'hk=p at hg;have hf:=B2 hg;have ht:=iP l (k+1);rw[hf,lu]at ht;simp only[dr hg,dt,cJ hg,dm,eT hs hg,hf];by_cases he:p=[]
   ·subst he;simp
   ·have hm:(l.take k).flatten.length+p.length<=bQ:=by unfold bQ;omega
    rw[show p.isEmpty=false from by simpa using he];simp only[dD,cB,dP hm,dm]
  ·simp
 ·intro k hk;have hg:l[k]? =some (l[k]'hk):=dR hk;generalize l[k]'hk=p at hg;have hf:=B2 hg;have ht:=iP l (k+1);rw[hf,lu]at ht;have hw:wr (((l.take k).flatten.length:Int)+(p.length:Int))=(((l.take k).flatten.length+p.length:Nat):Int):=by rw[Fk (by omega) (by omega)];omega
  have Ut:decide ((((l.take k).flatten.length+p.length:Nat):Int)<0)=false:=jb (by omega);simp only[dr hg,dt,cJ hg,dm,hw,Ut,dD,eT hs hg,hf,lu]
 ·simp
def ml(l:List cj)(t:Int):Bool:=l.any λx=>decide (x.cy<=t)&&decide (t<x.dK)
def fX(all:List cj)(t:cj):List Int:=bif ml all t.dK then [t.cy]else [t.cy,t.dK]
theorem f69_eq(p:List cj)(t:cj)(hs:cH p):f69 p t=some (ml p t.dK):=by
 have h:f102 p t=some (iF (λx=>decide (x.cy<=t.dK)&&decide (t.dK<x.dK)) p):=by
  unfold f102;rw[fZ p (λx=>decide (x.cy<=t.dK)&&decide (t.dK<x.dK)) (λi _=>(i:Int)) hs]
  ·simp only[dm,gJ,iF];cases p.findIdx? _<;>simp
  ·intro i y hy;simp only[dr hy,dt,cJ hy,dm,f70];cases decide (y.cy<=t.dK)<;>cases decide (t.dK<y.dK)<;>rfl
  ·simp
 unfold f69;rw[h];simp only[dm,gz];rfl
theorem FJ(all:List cj)(t:cj):(fX all t).length<=2:=by unfold fX;cases ml all t.dK<;>simp
theorem sq(all:List cj): ∀(l:List cj),(l.flatMap (fX all)).length<=2*l.length
 | []=>by simp
 |t::l=>by
  have:=sq all l;have:=FJ all t;simp only[F6,lu,oC];omega
theorem f35_eq(l:List (List cj))(h6:l.length<=6)(h4: ∀p∈l,p.length<=400):f35 l=some ((l.flatten.flatMap (fX l.flatten)).foldl vZ [0]):=by
 have pI:=z8 6 h6 h4;unfold f35;rw[f68_eq l h6 h4];generalize l.flatten=all at pI |-
 have hs:cH all:=by simp only[cH];omega
 simp only[dm];rw[mh (λk=>((0:Int)::(all.take k).flatMap (fX all),(k:Int))) all.length (by omega) (by simp) (r:=0::all.flatMap (fX all))]
 ·have hl:=sq all all;have e1:f71 (0::all.flatMap (fX all))=some (kI (0::all.flatMap (fX all))):=by
   unfold f71;rw[dP (by simp only[oC];omega)]
  have J6:=oY (0::all.flatMap (fX all));have e2:(kI (0::all.flatMap (fX all))).take (0::all.flatMap (fX all)).length=kI (0::all.flatMap (fX all)):=tP (by omega);have e3:f72 (kI (0::all.flatMap (fX all)))=some (Go.Lib.compact (kI (0::all.flatMap (fX all)))):=by
   unfold f72;rw[dP ⟨by rw[J6];simp,by rw[J6];simp only[oC];omega⟩]
  simp only[dm,e1,cB,dP J6,e3,QO]
 ·intro k hk;have hg:all[k]? =some (all[k]'hk):=dR hk;generalize all[k]'hk=t at hg;have hl:=sq all (all.take k);have hlk:(all.take k).length<=k:=by simp;omega
  have m1:((0:Int)::(all.take k).flatMap (fX all)).length+1<=bQ:=by simp only[oC];unfold bQ;omega
  have m2:(((0:Int)::(all.take k).flatMap (fX all))++[t.cy]).length+1<=bQ:=by simp only[lu,oC,Ih];unfold bQ;omega
  simp only[dr hg,dt,cJ hg,dm,cB,dP m1,f69_eq all t hs,dP m2,eT hs hg,dj hg,ZS,F6,V1,xD,fX];cases ml all t.dK<;>simp
 ·simp
theorem B3: ∀(l a:List Int),(l.foldl vZ a).length<=a.length+l.length
 | [],a=>by simp
 |x::l,a=>by
  have h1:=B3 l (vZ a x);have h2:=NU (l:=a) x;simp only[Sz,oC];omega
def ig:List df:=[⟨1,true,false⟩,⟨1,false,false⟩,⟨2,true,false⟩,⟨1,false,true⟩,⟨2,false,false⟩,⟨3,true,false⟩,⟨2,false,true⟩,⟨3,false,false⟩,⟨4,true,false⟩,⟨3,false,true⟩,⟨4,false,false⟩,⟨5,true,false⟩,⟨4,false,true⟩,⟨5,false,false⟩,⟨6,true,false⟩,⟨5,false,true⟩,⟨6,false,false⟩,⟨7,true,false⟩,⟨6,false,true⟩,⟨7,false,false⟩,⟨7,false,true⟩]
def tk(s:df):Nat:=((f58 s).getD 0).toNat
theorem f73_eq:f73=some ig:=by kernel_rfl
theorem uU:ig.length=21:=rfl
theorem jZ: ∀s∈ig,f58 s=some (tk s:Int)/\1<=tk s/\tk s<=768:=by
 have h:(ig.all λs=>decide (f58 s=some (tk s:Int))&&(decide (1<=tk s)&&decide (tk s<=768)))=true:=by decide
 intro s hs;have:=pA.1 h s hs;simpa using this
structure Bl (T:List Int) (n k:Nat):Prop where
 len:T.length=n+1
 z:T[0]? =some 0
 lo: ∀m,m<=k-> ∀e,T[m]? =some e-> -1<=e/\e<=(m:Int)/\(0<m->e≠0)
 p2: ∀m,0<m->m<=k-> ∀e,T[m]? =some e->0<=e-> ∃s∈ig,tk s<=m/\T[m-tk s]? =some (e-1)
 p3: ∀m,m<=k-> ∀s∈ig,tk s<=m-> ∀e e',T[m]? =some e->T[m-tk s]? =some e'->0<=e'->0<=e/\e<=e'+1
theorem Bl.step{T:List Int}{n k:Nat}(h:Bl T n k)(hk:k<n)(hn:n<=4608): ∃r,cA (σ:=(List Int×Int)) (τ:=(List Int)) (λ((Aa,N3):(List Int×Int))=>bif (decide (N3<(ig.length:Int)))then((((ix ig N3).bind λy9=>(f58 y9).bind λr10=>((bif (decide (0<=(wr (((k+1:Nat):Int)-r10))))then((ix Aa (wr (((k+1:Nat):Int)-r10))).bind λVI=>bif (decide (0<=VI))then((ix Aa ((k+1:Nat):Int)).bind λVJ=>bif (decide (VJ<0))then(some true)else(some (decide ((wr (VI+1))<VJ))))else(some false))else(some false)):Option Bool).bind λ(Xz:Bool)=>bif Xz then((ix Aa (wr (((k+1:Nat):Int)-r10))).bind λy17=>(ix Aa ((k+1:Nat):Int)).bind λy18=>some (Aa.set (((k+1:Nat):Int)).toNat (wr (y17+1))))else(some Aa)):Option (List Int)).bind λ(XA:(List Int))=>some (.inl (XA,(wr (N3+1)))))else(some (.inr Aa))) cQ ((T.set (((k+1:Nat):Int)).toNat (-1)),0)=some r/\Bl r n (k+1):=by
 have hl:=h.len;refine jQ (λj(s:List Int×Int)=>s.2=(j:Int)/\s.1.length=n+1/\(∀m,m≠k+1->s.1[m]? =T[m]?)/\ ∃e,s.1[k+1]? =some e/\ -1<=e/\e<=((k+1:Nat):Int)/\e≠0/\
   (0<=e-> ∃s∈ig,tk s<=k+1/\T[k+1-tk s]? =some (e-1))/\ ∀s∈ig.take j,tk s<=k+1-> ∀e',T[k+1-tk s]? =some e'->0<=e'->0<=e/\e<=e'+1) _ ig.length (by rw[uU];omega) ?_ ?_ ?_
 ·refine⟨rfl,by simp[hl],λm hm=>?_,-1,?_,by omega,by omega,by omega,λh=>by omega,by simp⟩
  ·show(T.set (((k+1:Nat):Int)).toNat (-1))[m]? =_;rw[oD,DR (by omega)]
  ·show(T.set (((k+1:Nat):Int)).toNat (-1))[k+1]? =_;rw[oD,Yl];simp;omega
 ·rintro j ⟨q,s2⟩ hj ⟨e0,hq,tz,e,he,h1,h2,h3,h4,h5⟩;simp only at e0 hq tz he;subst e0;have x1:ig[j]? =some (ig[j]'hj):=dR _;generalize ig[j]'hj=s at x1;have hm:=gT x1;obtain⟨t1,t2,t3⟩:=jZ s hm;have Pr:cH ig:=by simp only[cH,uU];omega
  have w0:wr (((k+1:Nat):Int)-(tk s:Int))=((k+1:Nat):Int)-(tk s:Int):=iZ (by omega) (by omega);simp only[dr x1,dt,cJ x1,t1,dm,eT Pr x1,w0];have keep:(∀e',tk s<=k+1->T[k+1-tk s]? =some e'->0<=e'->0<=e/\e<=e'+1)-> ∀s'∈ig.take (j+1),tk s'<=k+1-> ∀e',T[k+1-tk s']? =some e'->0<=e'->0<=e/\e<=e'+1:=λhs s' nZ ht e' wb h0=>by
   rw[dj x1,lT]at nZ;rcases nZ with nZ|nZ
   ·exact h5 s' nZ ht e' wb h0
   ·simp at nZ;subst nZ;exact hs e' ht wb h0
  by_cases c1:tk s<=k+1
  ·have c2:(0:Int)<=((k+1:Nat):Int)-(tk s:Int):=by omega
   have eU:k+1-tk s≠k+1:=by omega
   have y0:T[k+1-tk s]? =some (T[k+1-tk s]'(by omega)):=dR _;generalize T[k+1-tk s]'(by omega)=y at y0;have y1:q[k+1-tk s]? =some y:=by rw[tz _ eU];exact y0
   have i1:ix q (((k+1:Nat):Int)-(tk s:Int))=some y:=QT (k+1-tk s) (by omega) y1;have hy:=h.lo (k+1-tk s) (by omega) y y0;simp only[c2,ij,dt,i1,dm];by_cases c3:0<=y
   ·have w1:wr (y+1)=y+1:=iZ (by omega) (by omega);simp only[c3,ij,dt,cJ he,dm,w1];have xm: ∀e2,e2=y+1->(e<0\/e2<e)-> ∃s',some (Sum.inl (q.set (k+1) e2,((j+1:Nat):Int)):(List Int×Int)⊕List Int)=some (.inl s')/\s'.2=((j+1:Nat):Int)/\s'.1.length=n+1/\(∀m,m≠k+1->s'.1[m]? =T[m]?)/\ ∃e,s'.1[k+1]? =some e/\ -1<=e/\e<=((k+1:Nat):Int)/\e≠0/\
      (0<=e-> ∃s∈ig,tk s<=k+1/\T[k+1-tk s]? =some (e-1))/\ ∀s∈ig.take (j+1),tk s<=k+1-> ∀e',T[k+1-tk s]? =some e'->0<=e'->0<=e/\e<=e'+1:=λe2 Rt gl=>by
     subst Rt;refine⟨_,rfl,rfl,by simpa using hq,λm hm=>?_,y+1,?_,by omega,by omega,by omega,λ_=>⟨s,hm,c1,by rw[y0];congr 1;omega⟩,λs' nZ ht e' wb h0=>?_⟩
     ·show(q.set (k+1) (y+1))[m]? =_;rw[DR (by omega)];exact tz m hm
     ·show(q.set (k+1) (y+1))[k+1]? =_;rw[Yl];simp;omega
     ·rw[dj x1,lT]at nZ;rcases nZ with nZ|nZ
      ·have:=h5 s' nZ ht e' wb h0;omega
      ·simp at nZ;subst nZ;rw[y0]at wb;cases wb;omega
    have iq:ix q (((k+1:Nat):Int)-(tk s:Int))=some y:=i1;by_cases c4:e<0
    ·simp only[c4,ij,dt,dm,i1,cJ he,oD,w1];exact .inl (xm (y+1) rfl (.inl c4))
    ·by_cases c5:y+1<e
     ·simp only[c4,c5,ij,fq,dt,dD,dm,i1,cJ he,oD,w1];exact .inl (xm (y+1) rfl (.inr c5))
     ·simp only[c4,c5,fq,dD,dm];refine .inl ⟨_,rfl,rfl,hq,tz,e,he,h1,h2,h3,h4,keep λe' _ wb _=>?_⟩;rw[y0]at wb;cases wb;omega
   ·simp only[c3,fq,dD,dm];refine .inl ⟨_,rfl,rfl,hq,tz,e,he,h1,h2,h3,h4,keep λe' _ wb h0=>?_⟩;rw[y0]at wb;cases wb;exact absurd h0 c3
  ·have c2: ¬((0:Int)<=((k+1:Nat):Int)-(tk s:Int)):=by omega
   simp only[c2,fq,dD,dm];exact .inl ⟨_,rfl,rfl,hq,tz,e,he,h1,h2,h3,h4,keep λe' ht _ _=>absurd ht c1⟩
 ·rintro⟨q,s2⟩ ⟨e0,hq,tz,e,he,h1,h2,h3,h4,h5⟩;simp only at e0 hq tz he;subst e0;simp only[oF,fq,dD];rw[AN]at h5;refine⟨_,rfl,hq,by rw[tz 0 (by omega)];exact h.z,λm hm e' wb=>?_,λm h0 hm e' wb hz=>?_,λm hm s hs ht e1 e2 Rs Rt h0=>?_⟩
  ·by_cases Pp:m=k+1
   ·subst Pp;rw[he]at wb;cases wb;exact⟨h1,h2,λ_=>h3⟩
   ·rw[tz m Pp]at wb;exact h.lo m (by omega) e' wb
  ·by_cases Pp:m=k+1
   ·subst Pp;rw[he]at wb;cases wb;obtain⟨s,a,b,c⟩:=h4 hz;have:=(jZ s a).2.1;exact⟨s,a,b,by rw[tz _ (by omega)];exact c⟩
   ·rw[tz m Pp]at wb;obtain⟨s,a,b,c⟩:=h.p2 m h0 (by omega) e' wb hz;have:=(jZ s a).2.1;exact⟨s,a,b,by rw[tz _ (by omega)];exact c⟩
  ·have:=(jZ s hs).2.1;rw[tz _ (by omega)]at Rt;by_cases Pp:m=k+1
   ·subst Pp;rw[he]at Rs;cases Rs;exact h5 s hs ht e2 Rt h0
   ·rw[tz m Pp]at Rs;exact h.p3 m (by omega) s hs ht e1 e2 Rs Rt h0
def lr(l:List df):Nat:=l.foldr (λs n=>tk s+n) 0
theorem KZ{a b:List df}(h:a.Perm b):lr a=lr b:=by
 induction h with
 |nil=>rfl
 |cons x _ ih=>simp only[lr,List.foldr_cons]at *;omega
 |swap x y l=>simp only[lr,List.foldr_cons];omega
 |trans _ _ h1 h2=>omega
inductive ot (T:List Int):Nat->Nat->Prop
 |z (a:Nat):ot T 0 a
 |k {m a:Nat} {s:df} {e:Int} (hs:s∈ig) (h1:tk s<=a) (h2:tk s<=m) (he:T[m]? =some e) (wb:T[m-tk s]? =some (e-1)) (hr:ot T (m-tk s) (tk s)):ot T m a
theorem N4{T:List Int}{n:Nat}(h:Bl T n n): ∀(L:List df)(m:Nat),(∀s∈L,s∈ig)->lr L=m->m<=n-> ∃e,T[m]? =some e/\0<=e/\e<=(L.length:Int)
 | [],m,_,hm,_=>by
  simp[lr]at hm;subst hm;exact⟨0,h.z,by omega,by simp⟩
 |s::L,m,hL,hm,hn=>by
  have hs:=hL s (by simp);have hm:tk s+lr L=m:=hm;obtain⟨e',h1,h2,h3⟩:=N4 h L (m-tk s) (λx hx=>hL x (by simp[hx])) (by omega) (by omega);have dJ:=h.len;have x1:T[m]? =some (T[m]'(by omega)):=dR _;obtain⟨a,b⟩:=h.p3 m hn s hs (by omega) _ e' x1 h1 h2;exact⟨_,x1,a,by simp;omega⟩
theorem N5{T:List Int}{n:Nat}(h:Bl T n n): ∀(d m:Nat),m<=d->m<=n-> ∀e,T[m]? =some e->0<=e-> ∃L:List df,(∀s∈L,s∈ig)/\lr L=m/\(L.length:Int)=e
 |d,0,_,_,e,he,h0=>by
  rw[h.z]at he;cases he;exact⟨[],by simp,rfl,by simp⟩
 |0,m+1,hd,_,_,_,_=>by omega
 |d+1,m+1,hd,hn,e,he,h0=>by
  obtain⟨s,h1,h2,h3⟩:=h.p2 (m+1) (by omega) hn e he h0;have hs:=(jZ s h1).2.1;have eU:=(h.lo (m+1) hn e he).2.2 (by omega);obtain⟨L,a,b,c⟩:=N5 h d (m+1-tk s) (by omega) (by omega) (e-1) h3 (by omega);refine⟨s::L,λx hx=>?_,?_,by simp;omega⟩
  ·simp at hx;rcases hx with rfl|hx
   ·exact h1
   ·exact a x hx
  ·show tk s+lr L=m+1;omega
theorem FK{T:List Int}{n:Nat}(h:Bl T n n): ∀(L:List df)(m a:Nat)(e:Int),(∀s∈L,s∈ig/\tk s<=a)->lr L=m->m<=n->T[m]? =some e->(L.length:Int)=e->(L.Pairwise λx y=>tk y<=tk x)->ot T m a
 | [],m,a,e,_,hm,_,_,_,_=>by simp[lr]at hm;subst hm;exact .z a
 |s::L,m,a,e,hL,hm,hn,he,hl,hp=>by
  have hm:tk s+lr L=m:=hm;obtain⟨e',h1,h2,h3⟩:=N4 h L (m-tk s) (λx hx=>(hL x (by simp[hx])).1) (by omega) (by omega);obtain⟨_,b⟩:=h.p3 m hn s (hL s (by simp)).1 (by omega) e e' he h1 h2;have wb:e'=e-1:=by simp at hl;omega
  subst wb;rw[Gc]at hp;exact .k (hL s (by simp)).1 (hL s (by simp)).2 (by omega) he h1 (FK h L (m-tk s) (tk s) (e-1) (λx hx=>⟨(hL x (by simp[hx])).1,hp.1 x hx⟩) (by omega) (by omega) h1 (by simp at hl;omega) hp.2)
theorem FL{T:List Int}{n:Nat}(h:Bl T n n){e:Int}(he:T[n]? =some e)(h0:0<=e):ot T n 768:=by
 obtain⟨L,h1,h2,h3⟩:=N5 h n n (eD _) (eD _) e he h0;have hp:=ZQ L λx y=>decide (tk y<=tk x);refine FK h (L.mergeSort λx y=>decide (tk y<=tk x)) n 768 e (λs hs=>?_) (by rw[KZ hp];exact h2) (eD _) he (by rw[hp.length_eq];exact h3) ?_
 ·have:=h1 s (hp.mem_iff.1 hs);exact⟨this,(jZ s this).2.2⟩
 ·have:=ZP (le:=λx y=>decide (tk y<=tk x)) (λa b c h1 h2=>by simp at *;omega) (λa b=>by simp;omega) L;exact this.imp λh=>by simpa using h
theorem f74_ex(T:List Int)(n:Nat)(hT:Bl T n n)(hn:n<=4608): ∀(fu m a:Nat)(l:List df),m<fu->m<=n->l.length+m<=10000->
  ∃r,f74r fu (m:Int) (a:Int) ig T l=some r/\((r.1=true/\ ∃q,r.2=l++q/\lr q=m/\ ∀s∈q,s∈ig)\/(r.1=false/\r.2=l))/\(ot T m a->r.1=true)
 |0,m,a,l,h,_,_=>by omega
 |fu+1,m,a,l,hf,hm,hl=>by
  have dJ:=hT.len;unfold f74r;by_cases h0:m=0
  ·subst h0;simp only[ij,dt];exact⟨_,rfl,.inl ⟨rfl,[],by simp,rfl,by simp⟩,λ_=>rfl⟩
  ·have c0: ¬((m:Int)=0):=by omega
   simp only[c0,fq,dD];have key:=jQ (body:=λ((Jn,N6):(List df×Int))=>bif (decide (N6<(ig.length:Int)))then((((ix ig N6).bind λy3=>(f58 y3).bind λr4=>((bif (decide ((a:Int)<r4))then(some true)else(bif (decide ((m:Int)<r4))then(some true)else((ix T (wr ((m:Int)-r4))).bind λy7=>(ix T (m:Int)).bind λy8=>some (decide (y7≠(wr (y8-1))))))):Option Bool).bind λ(XB:Bool)=>bif XB then(some (.inl Jn))else(cB (Jn.length+1<=bQ)<|(f74r fu (wr ((m:Int)-r4)) r4 ig T (Jn++([y3]:List df))).bind λHP=>bif HP.1 then(some (.inr (.inr (.inr (true,HP.2)))))else(cB (0<=(wr ((HP.2.length:Int)-1)))<|cB ((wr ((HP.2.length:Int)-1)).toNat<=HP.2.length)<|cB ((wr ((HP.2.length:Int)-1)).toNat<=HP.2.length)<|some (.inl (HP.2.take (wr ((HP.2.length:Int)-1)).toNat))))):Option ((List df)⊕((List df×Int)⊕((List df)⊕(Bool×List df))))).bind (Sum.elim (λ(XC:(List df))=>some (.inl (XC,(wr (N6+1))))) some))else(some (.inr (.inl Jn))))
    (λj(s:List df×Int)=>s.2=(j:Int)/\s.1=l/\ ∀s∈ig.take j,¬(tk s<=a/\tk s<=m/\ ∃e,T[m]? =some e/\T[m-tk s]? =some (e-1)/\ot T (m-tk s) (tk s)))
    (λo=>match o with
     |.inl q=>q=l/\ ∀s∈ig,¬(tk s<=a/\tk s<=m/\ ∃e,T[m]? =some e/\T[m-tk s]? =some (e-1)/\ot T (m-tk s) (tk s))
     |.inr r=>r.1=true/\ ∃q,r.2=l++q/\lr q=m/\ ∀s∈q,s∈ig) ig.length (s0:=(l,0)) (by rw[uU];omega) ⟨rfl,rfl,by simp⟩ ?_ ?_
   ·obtain⟨o,k1,k2⟩:=key;simp only[k1,dm];cases o with
    |inl q=>
     refine⟨_,rfl,.inr ⟨rfl,k2.1⟩,λhc=>?_⟩;cases hc with
     |z=>omega
     |k hs h1 h2 he wb hr=>exact absurd ⟨h1,h2,_,he,wb,hr⟩ (k2.2 _ hs)
    |inr r=>exact⟨r,rfl,.inl k2,λ_=>k2.1⟩
   ·rintro j ⟨q,s2⟩ hj ⟨e0,e1,jT⟩;simp only at e0 e1;subst e0;subst e1;have x1:ig[j]? =some (ig[j]'hj):=dR _;generalize ig[j]'hj=s at x1;have hs:=gT x1;obtain⟨t1,t2,t3⟩:=jZ s hs;have Pr:cH ig:=by simp only[cH,uU];omega
    simp only[dr x1,dt,cJ x1,t1,dm,eT Pr x1];have skip:(¬(tk s<=a/\tk s<=m/\ ∃e,T[m]? =some e/\T[m-tk s]? =some (e-1)/\ot T (m-tk s) (tk s)))-> ∀s'∈ig.take (j+1),¬(tk s'<=a/\tk s'<=m/\ ∃e,T[m]? =some e/\T[m-tk s']? =some (e-1)/\ot T (m-tk s') (tk s')):=λhq s' nZ=>by
     rw[dj x1,lT]at nZ;rcases nZ with nZ|nZ
     ·exact jT s' nZ
     ·simp at nZ;subst nZ;exact hq
    by_cases c1:(a:Int)<(tk s:Int)
    ·simp only[c1,ij,dt,dm,vn];exact .inl ⟨_,rfl,rfl,rfl,skip λh=>by omega⟩
    by_cases c2:(m:Int)<(tk s:Int)
    ·simp only[c1,c2,ij,fq,dt,dD,dm,vn];exact .inl ⟨_,rfl,rfl,rfl,skip λh=>by omega⟩
    have w0:wr ((m:Int)-(tk s:Int))=((m-tk s:Nat):Int):=by rw[iZ (by omega) (by omega)];omega
    have y1:T[m-tk s]? =some (T[m-tk s]'(by omega)):=dR _;have y2:T[m]? =some (T[m]'(by omega)):=dR _;generalize T[m-tk s]'(by omega)=y at y1;generalize T[m]'(by omega)=z at y2;have hz:=hT.lo m hm z y2;have w1:wr (z-1)=z-1:=iZ (by omega) (by omega);simp only[c1,c2,fq,dD,w0,cJ y1,cJ y2,dm,w1];by_cases c3:y=z-1
    ·have m1:q.length+1<=bQ:=by unfold bQ;omega
     subst c3;obtain⟨r,k1,k2,k3⟩:=f74_ex T n hT hn fu (m-tk s) (tk s) (q++[s]) (by omega) (by omega) (by simp;omega);simp only[rz,xb,fq,dD,cX m1,k1,dm];rcases k2 with⟨r1,q',r2,r3,r4⟩|⟨r1,r2⟩
     ·simp only[r1,dt,dm,Sum.elim_inr];refine .inr ⟨_,rfl,rfl,s::q',by rw[r2];simp,?_,λx hx=>?_⟩
      ·show tk s+lr q'=m;omega
      ·simp at hx;rcases hx with rfl|hx
       ·exact hs
       ·exact r4 x hx
     ·have w2:wr ((r.2.length:Int)-1)=(q.length:Int):=by rw[r2];simp;rw[iZ (by omega) (by omega)]
      have n1:(0:Int)<=(q.length:Int):=by omega
      have n2:q.length<=r.2.length:=by rw[r2];simp
      simp only[r1,dD,w2,cX n1,oD,cX n2,dm,vn];refine .inl ⟨_,rfl,rfl,by rw[r2];simp,skip λh=>?_⟩;obtain⟨_,_,e,g1,g2,g3⟩:=h;have:=k3 g3;rw[r1]at this;cases this
    ·simp only[rz,c3,O4,ij,dt,dm,vn];refine .inl ⟨_,rfl,rfl,rfl,skip λh=>?_⟩;obtain⟨_,_,e,g1,g2,g3⟩:=h;rw[y2]at g1;rw[y1]at g2;cases g1;cases g2;exact c3 rfl
   ·rintro⟨q,s2⟩ ⟨e0,e1,jT⟩;simp only at e0 e1;subst e0;subst e1;simp only[oF,fq,dD];exact⟨_,rfl,rfl,λs hs=>jT s (by simpa using hs)⟩
theorem f36_ex(n:Int): ∃r,f36 n=some r/\(r.2=0->0<=n/\n<=4608/\(lr r.1:Int)=n/\ ∀s∈r.1,s∈ig):=by
 unfold f36;by_cases h1:n<0
 ·simp only[h1,ij,dt,dm];exact⟨_,rfl,λh=>by cases h⟩
 by_cases h2:4608<n
 ·simp only[h1,h2,ij,fq,dt,dD,dm];exact⟨_,rfl,λh=>by cases h⟩
 obtain⟨m,rfl⟩: ∃m:Nat,n=(m:Int):=⟨n.toNat,by omega⟩;have w1:wr ((m:Int)+1)=((m+1:Nat):Int):=fH (by omega);have n1:(0:Int)<=((m+1:Nat):Int):=by omega
 have n2:((m+1:Nat):Int)<=(bQ:Int):=by unfold bQ;omega
 simp only[h1,h2,fq,dD,f73_eq,dm,w1,cX n1,cX n2,oD];refine fc (λk(s:List Int×Int)=>s.2=((k+1:Nat):Int)/\Bl s.1 m k) (λT=>Bl T m m) m (by omega) ⟨rfl,?_⟩ ?_ ?_ ?_
 ·refine⟨by simp,by simp,λk hk e he=>?_,λk hk hk2=>by omega,λk hk s hs ht=>?_⟩
  ·have:k=0:=by omega
   subst this;simp at he;subst he;exact⟨by omega,by omega,λh=>by omega⟩
  ·have:=(jZ s hs).2.1;omega
 ·rintro k ⟨T,s2⟩ hk ⟨e0,hT⟩;simp only at e0 hT;subst e0;have c1:((k+1:Nat):Int)<=(m:Int):=by omega
  have dJ:=hT.len;have x1:T[k+1]? =some (T[k+1]'(by omega)):=dR _;obtain⟨r,k1,k2⟩:=hT.step hk (by omega);simp only[c1,ij,dt,cJ x1,dm,k1];rw[fH (by omega)];exact .inl ⟨_,rfl,rfl,k2⟩
 ·rintro⟨T,s2⟩ ⟨e0,hT⟩;simp only at e0 hT;subst e0;have c1: ¬(((m+1:Nat):Int)<=(m:Int)):=by omega
  simp only[c1,fq,dD];exact⟨_,rfl,hT⟩
 ·intro T hT;have dJ:=hT.len;have x1:T[m]? =some (T[m]'(by omega)):=dR _;generalize T[m]'(by omega)=e at x1;simp only[cJ x1,dm];by_cases c1:e<0
  ·simp only[c1,ij,dt];exact⟨_,rfl,λh=>by cases h⟩
  ·obtain⟨r,k1,k2,k3⟩:=f74_ex T m hT (by omega) cQ m 768 [] (by unfold cQ;omega) (eD _) (by simp;omega);have k1:f74 (m:Int) 768 ig T []=some r:=k1;simp only[c1,fq,dD,k1,dm];refine⟨_,rfl,λ_=>⟨by omega,by omega,?_,?_⟩⟩
   ·rcases k2 with⟨r1,q,r2,r3,r4⟩|⟨r1,r2⟩
    ·simp only[r2,sA,r3]
    ·have:=k3 (FL hT x1 (by omega));rw[r1]at this;cases this
   ·rcases k2 with⟨r1,q,r2,r3,r4⟩|⟨r1,r2⟩
    ·simp only[r2,sA];exact r4
    ·have:=k3 (FL hT x1 (by omega));rw[r1]at this;cases this
theorem f66_in(a lo hi:Int):f66 a lo hi=some (om a lo hi):=f66_eq a lo hi
structure ou (h:eM):Prop where
 n1:1<=h.low.length
 n4:h.low.length<=4
 hi:h.high.length=h.low.length
 ba:h.gA.length=h.low.length
 el: ∀(i:Nat)a b,h.low[i]? =some a->h.high[i]? =some b->0<=a/\a<=b/\b<=8
 t1:1<=h.top
 t2:h.top<=18
 j1:0<=h.jump
 j2:h.jump<=18
 ws: ∀x∈[h.shift,h.lift,h.lR,h.eW,h.ie],0<=x/\x<=1000
theorem f67_ex(l:List Int)(hs:cH l): ∃b,f67 l=some b/\True:=by
 have nZ:l.length<=4194304:=hs;unfold f67;refine fc (λk(s:Int)=>s=(l.length:Int)-1-k) (λ_=>True) l.length hs (by rw[iZ (by omega) (by omega)];omega) ?_ ?_ ?_
 ·intro k s hk hi;subst hi;by_cases h:0<(l.length:Int)-1-k
  ·have e1:l[l.length-1-k]? =some (l[l.length-1-k]'(by omega)):=dR _;have e2:l[l.length-2-k]? =some (l[l.length-2-k]'(by omega)):=dR _;have w:wr ((l.length:Int)-1-k-1)=((l.length-2-k:Nat):Int):=by rw[iZ (by omega) (by omega)];omega
   have i1:ix l ((l.length:Int)-1-k)=some (l[l.length-1-k]'(by omega)):=QT (l.length-1-k) (by omega) e1;simp only[h,ij,dt,i1,w,cJ e2,dm,f100,f129];simp only[rz,xb,fq,dD,dm];cases decide (l[l.length-1-k]'(by omega)<l[l.length-2-k]'(by omega))
   ·exact .inl ⟨_,rfl,by omega⟩
   ·exact .inr ⟨_,rfl,trivial⟩
  ·simp only[h,fq,dD];exact .inr ⟨_,rfl,trivial⟩
 ·intro s hi;subst hi;have h: ¬0<(l.length:Int)-1-(l.length:Nat):=by omega
  simp only[h,fq,dD];exact⟨_,rfl,trivial⟩
 ·intro r _;cases r<;>exact⟨_,rfl,trivial⟩
theorem f33_ex(h:eM): ∃r,f33 h=some r/\(r=0->ou h):=by
 unfold f33;simp only[f66_in];refine fR (P1:=λj=>j=false->om (h.low.length:Int) 1 4=true/\h.high.length=h.low.length/\h.gA.length=h.low.length) ?_ ?_
 ·simp only[dm];cases h1:om (h.low.length:Int) 1 4
  ·exact⟨_,rfl,λh=>by cases h⟩
  ·by_cases h2:h.high.length=h.low.length
   ·have e:((h.high.length:Int)≠(h.low.length:Int))=False:=by simp[h2]
    simp only[qc,dD,e,fq];refine⟨_,rfl,λh3=>⟨trivial,h2,?_⟩⟩;simp at h3;omega
   ·have e:((h.high.length:Int)≠(h.low.length:Int))=True:=by simp;omega
    simp only[qc,dD,e,ij,dt];exact⟨_,rfl,λh=>by cases h⟩
 intro j hj;cases j
 case true=>exact⟨60,rfl,λh=>by cases h⟩
 obtain⟨n1,n2,n3⟩:=hj rfl;simp only[om,fE,AE]at n1;simp only[dD];refine fc (λk(s:Int)=>s=(k:Int)/\ ∀(i:Nat)a b,i<k->h.low[i]? =some a->h.high[i]? =some b->0<=a/\a<=b/\b<=8) (λo=>match o with
  |.inl _=> ∀(i:Nat)a b,h.low[i]? =some a->h.high[i]? =some b->0<=a/\a<=b/\b<=8
  |.inr z=>z≠0) h.low.length (by omega) ⟨rfl,λi a b hi=>by omega⟩ ?_ ?_ ?_
 ·rintro k s hk ⟨rfl,hi⟩;have e1:h.low[k]? =some (h.low[k]'hk):=dR _;have e2:h.high[k]? =some (h.high[k]'(by omega)):=dR _;generalize h.low[k]'hk=a at e1;generalize h.high[k]'(by omega)=b at e2;simp only[dr e1,dt,cJ e1,cJ e2,dm,eT (l:=h.low) (by simp only[cH];omega) e1];by_cases c1:a<0
  ·simp only[c1,ij,dt,dm];exact .inr ⟨_,rfl,show(60:Int)≠0 by decide⟩
  by_cases c2:b<a
  ·simp only[c1,c2,ij,fq,dt,dD,dm];exact .inr ⟨_,rfl,show(60:Int)≠0 by decide⟩
  by_cases c3:8<b
  ·simp only[c1,c2,c3,ij,fq,dt,dD,dm];exact .inr ⟨_,rfl,show(60:Int)≠0 by decide⟩
  simp only[c1,c2,c3,ij,fq,dt,dD,dm];refine .inl ⟨_,rfl,rfl,λi a' b' Ct ha hb=>?_⟩;by_cases Sc:i<k
  ·exact hi i a' b' Sc ha hb
  ·have:i=k:=by omega
   subst this;rw[e1]at ha;rw[e2]at hb;cases ha;cases hb;omega
 ·rintro s ⟨rfl,hi⟩;simp only[oF,fq,dD];exact⟨_,rfl,λi a b ha hb=>hi i a b (fT.1 ha).1 ha hb⟩
 intro o ho;cases o
 case inr=>rename_i z;exact⟨z,rfl,λh=>absurd h ho⟩
 simp only[vn];refine fR (P1:=λj=>j=false->1<=h.top/\h.top<=18/\0<=h.jump/\h.jump<=18) ?_ ?_
 ·refine fR (P1:=λ_=>True) (f67_ex h.low (by simp only[cH];omega)) λb1 _=>kZ (λ_=>⟨_,rfl,λh=>by cases h⟩) λ_=>
   fR (P1:=λ_=>True) (f67_ex h.high (by simp only[cH];omega)) λb2 _=>kZ (λ_=>⟨_,rfl,λh=>by cases h⟩) λ_=>?_
  simp only[dm];cases h3:om h.top 1 18
  ·exact⟨_,rfl,λh=>by cases h⟩
  ·refine⟨_,rfl,λh4=>?_⟩;simp only[om,fE,AE,ZN]at h3 h4;omega
 intro j hj;cases j
 case true=>exact⟨60,rfl,λh=>by cases h⟩
 obtain⟨t1,t2,j1,j2⟩:=hj rfl;simp only[dD];refine fc (λk(s:Int)=>s=(k:Int)/\ ∀x∈[h.shift,h.lift,h.lR,h.eW,h.ie].take k,0<=x/\x<=1000) (λo=>match o with
  |.inl _=> ∀x∈[h.shift,h.lift,h.lR,h.eW,h.ie],0<=x/\x<=1000
  |.inr z=>z≠0) 5 (by omega) ⟨rfl,λx hx=>by simp at hx⟩ ?_ ?_ ?_
 ·rintro k s hk ⟨rfl,hi⟩;generalize hL:[h.shift,h.lift,h.lR,h.eW,h.ie]=L at hi;have hl:L.length=5:=by subst hL;rfl
  have e1:L[k]? =some (L[k]'(by omega)):=dR _;generalize L[k]'(by omega)=x at e1;have c:(k:Int)<5:=by omega
  simp only[c,ij,dt,cJ e1,dm];rw[fH (by omega)];cases h3:om x 0 1000
  ·exact .inr ⟨_,rfl,show(60:Int)≠0 by decide⟩
  ·refine .inl ⟨_,rfl,rfl,λy hy=>?_⟩;rw[dj e1,lT]at hy;rcases hy with hy|hy
   ·exact hi y hy
   ·simp at hy;subst hy;simpa[om]using h3
 ·rintro s ⟨rfl,hi⟩;exact⟨_,rfl,hi⟩
 intro o ho;cases o
 case inr=>rename_i z;exact⟨z,rfl,λh=>absurd h ho⟩
 exact⟨0,rfl,λ_=>⟨by omega,by omega,n2,n3,by assumption,t1,t2,j1,j2,ho⟩⟩
def mn(x:Int)(p:be):Bool:=decide (p.aY=x)
theorem f231_1_eq(l:List be)(x:Int)(hs:cH l):f231_1 l x=some (iF (mn x) l):=by
 unfold f231_1;rw[fZ l (mn x) (λi _=>(i:Int)) hs]
 ·simp only[dm,gJ,iF];cases l.findIdx? _<;>simp
 ·intro i y hy;simp only[dr hy,dt,cJ hy,dm,f261,mn];cases decide (y.aY=x)<;>rfl
 ·simp
theorem f241_eq(c:cq)(x:Int)(hs:cH c.cV):f241 c x=some (iF (mn x) c.cV):=by
 unfold f241;rw[f231_1_eq _ _ hs];rfl
theorem f159_eq(l:List be)(x:Int)(hs:cH l):f159 l x=some (l.any (mn x)):=by
 unfold f159 f206 f231;rw[fZ l (mn x) (λi _=>(i:Int)) hs]
 ·simp only[dm,gJ];rw[<-gz];unfold iF;cases l.findIdx? _<;>simp
 ·intro i y hy;simp only[dr hy,dt,cJ hy,dm,f207,mn];cases decide (y.aY=x)<;>rfl
 ·simp
theorem Ds{α:Type}{p:α->Bool}{l:List α}:decide (iF p l<0)=!(l.any p):=by
 rw[<-gz];by_cases h:iF p l<0
 ·simp[h]
 ·simp[h];omega
theorem uV{α:Type}{p:α->Bool}{l:List α}(h:l.any p=true): ∃(k:Nat)(x:α),iF p l=(k:Int)/\l[k]? =some x/\p x=true:=by
 unfold iF;cases hf:l.findIdx? p with
 |none=>
  rw[ZR]at hf;obtain⟨x,hx,hp⟩:=AO.1 h;rw[hf x hx]at hp;cases hp
 |some k=>
  obtain⟨hk,h1,_⟩:=V2.1 hf;exact⟨k,_,rfl,dR hk,h1⟩
def HQ(l:List Int):Prop:= ∀(i:Nat)a b,l[i]? =some a->l[i+1]? =some b->a<b
theorem f240_ex(l:List Int)(hs:cH l): ∃b,f240 l=some b/\(b=true↔HQ l):=by
 have nZ:l.length<=4194304:=hs;unfold f240;refine fc (λk(s:Int)=>s=((k+1:Nat):Int)/\ ∀(i:Nat)a b,i<k->l[i]? =some a->l[i+1]? =some b->a<b) (λo=>match o with
  |.inl _=>HQ l
  |.inr b=>b=false/\ ¬HQ l) (l.length-1) (by omega) ⟨rfl,λi a b h=>by omega⟩ ?_ ?_ ?_
 ·rintro k s hk ⟨rfl,hi⟩;have e1:l[k+1]? =some (l[k+1]'(by omega)):=dR _;have e2:l[k]? =some (l[k]'(by omega)):=dR _;have w:wr (((k+1:Nat):Int)-1)=(k:Int):=by rw[iZ (by omega) (by omega)];omega
  simp only[dr e1,dt,cJ e1,w,cJ e2,dm];rw[fH (by omega)];by_cases c:l[k+1]'(by omega)<=l[k]'(by omega)
  ·simp only[c,ij,dt];exact .inr ⟨_,rfl,rfl,λh=>by have:=h k _ _ e2 e1;omega⟩
  ·simp only[c,fq,dD];refine .inl ⟨_,rfl,rfl,λi a b Sc ha hb=>?_⟩;by_cases gl:i<k
   ·exact hi i a b gl ha hb
   ·have:i=k:=by omega
    subst this;rw[e2]at ha;rw[e1]at hb;cases ha;cases hb;omega
 ·rintro s ⟨rfl,hi⟩;have c: ¬(((l.length-1+1:Nat):Int)<(l.length:Int)):=by omega
  simp only[c,fq,dD];refine⟨_,rfl,λi a b ha hb=>hi i a b ?_ ha hb⟩;have:=(fT.1 hb).1;omega
 intro o ho;cases o with
 |inl _=>exact⟨true,rfl,by simpa using ho⟩
 |inr b=>
  obtain⟨h1,h2⟩:=ho;subst h1;exact⟨false,rfl,by simpa using h2⟩
structure gP (c:cq):Prop where
 da: ∀(i:Nat)p q,c.cV[i]? =some p->c.cV[i+1]? =some q->p.aY<q.aY
 dc: ∀p∈c.cV,1<=p.aY/\p.aY<=14/\1<=p.cO/\p.cO<=18
 ha:HQ c.held
 oa:HQ c.dz
 hd: ∀x∈c.held,c.cV.any (mn x)=true
 oo: ∀x∈c.dz,1<=x/\x<=14/\c.cV.any (mn x)=false
theorem f209_ex(c:cq)(s1:cH c.cV)(s2:cH c.held)(s3:cH c.dz): ∃b,f209 c=some b/\(b=true↔gP c):=by
 have s1':c.cV.length<=4194304:=s1;have s2':c.held.length<=4194304:=s2;have s3':c.dz.length<=4194304:=s3;unfold f209;refine fc (λk(s:Int×Int)=>s=((c.cV[k-1]?.map be.aY).getD 0*(if k=0 then 0 else 1),(k:Int))/\(∀p∈c.cV.take k,1<=p.aY/\p.aY<=14/\1<=p.cO/\p.cO<=18)/\
   ∀(i:Nat)p q,i+1<k->c.cV[i]? =some p->c.cV[i+1]? =some q->p.aY<q.aY) (λo=>match o with
  |.inl _=>(∀(i:Nat)p q,c.cV[i]? =some p->c.cV[i+1]? =some q->p.aY<q.aY)/\ ∀p∈c.cV,1<=p.aY/\p.aY<=14/\1<=p.cO/\p.cO<=18
  |.inr b=>b=false/\ ¬gP c) c.cV.length s1' ⟨by simp,λp hp=>by simp at hp,λi p q h=>by omega⟩ ?_ ?_ ?_
 ·rintro k s hk ⟨rfl,h1,h2⟩;have e1:c.cV[k]? =some (c.cV[k]'hk):=dR _;generalize c.cV[k]'hk=y at e1;simp only[dr e1,dt,cJ e1,dm,eT s1 e1,f66_in];generalize hL:(c.cV[k-1]?.map be.aY).getD 0*(if k=0 then 0 else 1)=L;by_cases c1:y.aY<=L
  ·simp only[c1,ij,dt,dm];refine .inr ⟨_,rfl,rfl,λhr=>?_⟩;by_cases Uu:k=0
   ·subst Uu;simp at hL;subst hL;have:=hr.dc y (gT e1);omega
   ·have e2:c.cV[k-1]? =some (c.cV[k-1]'(by omega)):=dR _;rw[e2]at hL;simp[Uu]at hL;have:=hr.da (k-1) _ y e2 (by rw[Nat.sub_add_cancel (by omega)];exact e1);omega
  by_cases c2:14<y.aY
  ·simp only[c1,c2,ij,fq,dt,dD,dm];refine .inr ⟨_,rfl,rfl,λhr=>?_⟩;have:=hr.dc y (gT e1);omega
  cases c3:om y.cO 1 18
  ·simp only[c1,c2,fq,dD,dm,Lz,dt];refine .inr ⟨_,rfl,rfl,λhr=>?_⟩;have:=hr.dc y (gT e1);simp[om]at c3;omega
  ·simp only[c1,c2,fq,dD,dm,qc];simp only[om,fE,AE]at c3;have hL0:0<=L:=by
    by_cases Uu:k=0
    ·subst Uu;simp at hL;omega
    ·have e2:c.cV[k-1]? =some (c.cV[k-1]'(by omega)):=dR _;have hm:c.cV[k-1]'(by omega)∈c.cV.take k:=by
      rw[List.mem_take_iff_getElem];exact⟨k-1,by omega,rfl⟩
     have:=h1 _ hm;rw[e2]at hL;simp[Uu]at hL;omega
   refine .inl ⟨_,rfl,?_,λp hp=>?_,λi p q hi hp hq=>?_⟩
   ·simp only[Ys,e1,gX,Ce];simp
   ·rw[dj e1,lT]at hp;rcases hp with hp|hp
    ·exact h1 p hp
    ·simp at hp;subst hp;omega
   ·by_cases Sc:i+1<k
    ·exact h2 i p q Sc hp hq
    ·have XD:k=i+1:=by omega
     subst XD;rw[e1]at hq;cases hq;simp only[Ys,hp,gX,Ce]at hL;simp at hL;omega
 ·rintro s ⟨rfl,h1,h2⟩;simp only[oF,fq,dD];refine⟨_,rfl,λi p q hp hq=>h2 i p q (fT.1 hq).1 hp hq,λp hp=>h1 p (by simpa using hp)⟩
 intro o ho;cases o with
 |inr b=>obtain⟨rfl,h⟩:=ho;exact⟨false,rfl,by simpa using h⟩
 |inl _=>
 obtain⟨d1,d2⟩:=ho;simp only[vn];refine fR (P1:=λj=>j=false↔(HQ c.held/\HQ c.dz)) ?_ ?_
 ·refine fR (f240_ex c.held s2) λb1 h1=>?_;cases b1
  ·exact⟨true,rfl,by simp at h1;simp[h1]⟩
  ·refine fR (f240_ex c.dz s3) λb2 h2=>⟨!b2,rfl,?_⟩;simp at h1;cases b2<;>simp_all
 intro j hj;cases j
 case true=>
  refine⟨false,rfl,?_⟩;simp at hj;simp;exactλh=>hj h.ha h.oa
 obtain⟨a1,a2⟩:=hj.1 rfl;simp only[dD];refine fc (λk(s:Int)=>s=(k:Int)/\ ∀x∈c.held.take k,c.cV.any (mn x)=true) (λo=>match o with
  |.inl _=> ∀x∈c.held,c.cV.any (mn x)=true
  |.inr b=>b=false/\ ¬gP c) c.held.length s2' ⟨rfl,λp hp=>by simp at hp⟩ ?_ ?_ ?_
 ·rintro k s hk ⟨rfl,h1⟩;have e1:c.held[k]? =some (c.held[k]'hk):=dR _;generalize c.held[k]'hk=y at e1;simp only[dr e1,dt,cJ e1,dm,eT s2 e1,f241_eq c _ s1,Ds];cases c1:c.cV.any (mn y)
  ·exact .inr ⟨_,rfl,rfl,λhr=>by have:=hr.hd y (gT e1);rw[c1]at this;cases this⟩
  ·refine .inl ⟨_,rfl,rfl,λp hp=>?_⟩;rw[dj e1,lT]at hp;rcases hp with hp|hp
   ·exact h1 p hp
   ·simp at hp;subst hp;exact c1
 ·rintro s ⟨rfl,h1⟩;simp only[oF,fq,dD];exact⟨_,rfl,λp hp=>h1 p (by simpa using hp)⟩
 intro o ho;cases o with
 |inr b=>obtain⟨rfl,h⟩:=ho;exact⟨false,rfl,by simpa using h⟩
 |inl _=>
 simp only[vn];refine fc (λk(s:Int)=>s=(k:Int)/\ ∀x∈c.dz.take k,1<=x/\x<=14/\c.cV.any (mn x)=false) (λo=>match o with
  |.inl _=> ∀x∈c.dz,1<=x/\x<=14/\c.cV.any (mn x)=false
  |.inr b=>b=false/\ ¬gP c) c.dz.length s3' ⟨rfl,λp hp=>by simp at hp⟩ ?_ ?_ ?_
 ·rintro k s hk ⟨rfl,h1⟩;have e1:c.dz[k]? =some (c.dz[k]'hk):=dR _;generalize c.dz[k]'hk=y at e1;simp only[dr e1,dt,cJ e1,dm,eT s3 e1,f66_in,f241_eq c _ s1,gz];cases c0:om y 1 14
  ·refine .inr ⟨_,rfl,rfl,λhr=>?_⟩;have:=hr.oo y (gT e1);simp[om]at c0;omega
  cases c1:c.cV.any (mn y)
  ·refine .inl ⟨_,rfl,rfl,λp hp=>?_⟩;rw[dj e1,lT]at hp;rcases hp with hp|hp
   ·exact h1 p hp
   ·simp at hp;subst hp;simp[om]at c0;exact⟨c0.1,c0.2,c1⟩
  ·exact .inr ⟨_,rfl,rfl,λhr=>by have:=hr.oo y (gT e1);rw[c1]at this;exact Bool.noConfusion this.2.2⟩
 ·rintro s ⟨rfl,h1⟩;simp only[oF,fq,dD];exact⟨_,rfl,λp hp=>h1 p (by simpa using hp)⟩
 intro o h3;cases o with
 |inr b=>obtain⟨rfl,h⟩:=h3;exact⟨false,rfl,by simpa using h⟩
 |inl _=>exact⟨true,rfl,by simp;exact⟨d1,d2,a1,a2,ho,h3⟩⟩
theorem f262_eq(l:List Int)(x:Int)(hs:cH l):f262 l x=some (iF (λy=>decide (x=y)) l):=by
 unfold f262;rw[fZ l (λy=>decide (x=y)) (λi _=>(i:Int)) hs]
 ·simp only[dm,gJ,iF];cases l.findIdx? _<;>simp
 ·intro i y hy;simp only[dr hy,dt,cJ hy,dm];cases decide (x=y)<;>rfl
 ·simp
theorem f263_eq(l:List Int)(a b:Int)(hs:cH l):f263 l a b=some (l.any λx=>decide (a<x)&&decide (x<b)):=by
 unfold f263 f270;rw[fZ l (λx=>decide (a<x)&&decide (x<b)) (λi _=>(i:Int)) hs]
 ·simp only[dm,gJ];rw[<-gz];unfold iF;cases l.findIdx? _<;>simp
 ·intro i y hy;simp only[dr hy,dt,cJ hy,dm,f264];cases decide (a<y)<;>cases decide (y<b)<;>rfl
 ·simp
theorem f206_1_eq(l:List be)(a:Int)(hs:cH l):f206_1 l a=some (l.any λx=>decide (x.cO<a)):=by
 unfold f206_1 f231_2;rw[fZ l (λx:be=>decide (x.cO<a)) (λi _=>(i:Int)) hs]
 ·simp only[dm,gJ];rw[<-gz];unfold iF;cases l.findIdx? _<;>simp
 ·intro i y hy;simp only[dr hy,dt,cJ hy,dm,f265];cases decide (y.cO<a)<;>rfl
 ·simp
theorem K0{α:Type}{p:α->Bool}{l:List α}{k:Nat}{x:α}(hx:l[k]? =some x)(hp:p x=true):0<=iF p l/\iF p l<=(k:Int):=by
 have ha:l.any p=true:=AO.2 ⟨x,gT hx,hp⟩;obtain⟨j,y,h1,h2,h3⟩:=uV ha;rw[h1];refine⟨by omega,?_⟩;by_cases hjk:j<=k
 ·omega
 ·exfalso;unfold iF at h1;cases hf:l.findIdx? p with
  |none=>rw[hf]at h1;simp at h1
  |some m=>
   rw[hf]at h1;obtain⟨hm,_,h5⟩:=V2.1 hf;have e:m=j:=by simp only at h1;omega
   subst e;have:=h5 k (by omega);have hxk:=(fT.1 hx).2;rw[hxk]at this;exact this hp
theorem f243_ex(h:eM)(c:cq)(fs:List Int)(hn:h.low.length<=4)(hb:h.gA.length=h.low.length)(hl:fs.length=c.cV.length)(hs:cH c.cV)(ho:cH c.dz):
  ∃b,f243 h c fs=some b/\(fs.length<=1->b=true):=by
 have nZ:c.cV.length<=4194304:=hs;have hf:cH fs:=by simp only[cH];omega
 unfold f243;refine fc (λk(s:Int)=>s=((k+1:Nat):Int)) (λo=>fs.length<=1->o=.inl ()) h.low.length (by omega) rfl ?_ ?_ ?_
 ·rintro k s hk rfl;have c0:((k+1:Nat):Int)<=(h.low.length:Int):=by omega
  simp only[c0,ij,dt,f262_eq fs _ hf,dm,Ds];rw[fH (by omega)];cases ha:fs.any (λy=>decide (((k+1:Nat):Int)=y))
  ·exact .inl ⟨_,rfl,by omega⟩
  obtain⟨j,y,h1,h2,h3⟩:=uV ha;have h3:=Rf h3;subst h3;have hj:=(fT.1 h2).1;simp only[h1,qc,dD];have key: ∃m:Nat,cA (σ:=(Int×Int)) (τ:=Int) (λ((N7,uW):(Int×Int))=>bif (decide (uW<(fs.length:Int)))then((((ix fs uW).bind λy5=>bif (decide (y5=((k+1:Nat):Int)))then(some uW)else(some N7)):Option Int).bind λ(Ab:Int)=>some (.inl (Ab,(wr (uW+1)))))else(some (.inr N7))) cQ ((j:Int),0)=some (m:Int)/\j<=m/\m<fs.length:=by
   have:=jQ (body:=λ((N7,uW):(Int×Int))=>bif (decide (uW<(fs.length:Int)))then((((ix fs uW).bind λy5=>bif (decide (y5=((k+1:Nat):Int)))then(some uW)else(some N7)):Option Int).bind λ(Ab:Int)=>some (.inl (Ab,(wr (uW+1)))))else(some (.inr N7)))
    (λn(s:Int×Int)=>s.2=(n:Int)/\ ∃m:Nat,s.1=(m:Int)/\j<=m/\m<fs.length) (λr=> ∃m:Nat,r=(m:Int)/\j<=m/\m<fs.length) fs.length (s0:=((j:Int),0)) hf ⟨rfl,j,rfl,eD _,hj⟩ ?_ ?_
   ·obtain⟨r,e1,m,e2,e3⟩:=this;subst e2;exact⟨m,e1,e3⟩
   ·rintro n ⟨s1,s2⟩ hn ⟨e1,m,e2,e3,e4⟩;simp only at e1 e2;subst e1;subst e2;have g1:fs[n]? =some (fs[n]'hn):=dR _;generalize fs[n]'hn=z at g1;simp only[dr g1,dt,cJ g1,dm,eT hf g1];by_cases hz:z=((k+1:Nat):Int)
    ·simp only[hz,ij,dt,dm];refine .inl ⟨_,rfl,rfl,n,rfl,?_,hn⟩;have:=K0 (p:=λy=>decide (((k+1:Nat):Int)=y)) g1 (by simp[hz]);rw[h1]at this;omega
    ·simp only[hz,fq,dD,dm];exact .inl ⟨_,rfl,rfl,m,rfl,e3,e4⟩
   ·rintro⟨s1,s2⟩ ⟨e1,m,e2,e3,e4⟩;simp only at e1 e2;subst e1;subst e2;simp only[oF,fq,dD];exact⟨_,rfl,m,rfl,e3,e4⟩
  obtain⟨m,k1,k2,k3⟩:=key;simp only[k1,dm];by_cases hjm:j=m
  ·subst hjm;simp only[ij,dt];exact .inl ⟨_,rfl,by omega⟩
  have c2: ¬((j:Int)=(m:Int)):=by omega
  have Zr: ¬fs.length<=1:=by omega
  have b1:h.gA[k]? =some (h.gA[k]'(by omega)):=dR _;have w:wr (((k+1:Nat):Int)-1)=(k:Int):=by rw[iZ (by omega) (by omega)];omega
  have d1:c.cV[j]? =some (c.cV[j]'(by omega)):=dR _;have d2:c.cV[m]? =some (c.cV[m]'(by omega)):=dR _;simp only[c2,fq,dD,w,cJ b1,cJ d1,cJ d2,dm,f263_eq _ _ _ ho];have n1:(0:Int)<=(j:Int):=by omega
  have n2:(0:Int)<=(m:Int):=by omega
  have n3:((j:Int)).toNat<=((m:Int)).toNat:=by omega
  have n4:((m:Int)).toNat<=c.cV.length:=by omega
  have Pr:cH ((c.cV.take ((m:Int)).toNat).drop ((j:Int)).toNat):=by simp only[cH,U8,F7];omega
  simp only[cX n1,cX n2,cX n3,cX n4,f206_1_eq _ _ Pr,dm];generalize h.gA[k]'(by omega)=x1;generalize decide ((c.cV[j]'(by omega)).cO≠(c.cV[m]'(by omega)).cO)=x2;generalize(c.dz.any λx=>_)=x3;generalize(List.any _ λx:be=>_)=x4;cases x1
  ·exact .inr ⟨_,rfl,λh=>absurd h Zr⟩
  cases x2
  ·cases x3
   ·cases x4
    ·exact .inl ⟨_,rfl,by omega⟩
    ·exact .inr ⟨_,rfl,λh=>absurd h Zr⟩
   ·exact .inr ⟨_,rfl,λh=>absurd h Zr⟩
  ·exact .inr ⟨_,rfl,λh=>absurd h Zr⟩
 ·rintro s rfl;have c0: ¬(((h.low.length+1:Nat):Int)<=(h.low.length:Int)):=by omega
  simp only[c0,fq,dD];exact⟨_,rfl,λ_=>rfl⟩
 ·intro o ho;cases o with
  |inl _=>exact⟨true,rfl,λ_=>rfl⟩
  |inr b=>exact⟨b,rfl,λh=>by have:=ho h;cases this⟩
theorem f243_one: @f243_1= @f243:=rfl
def wc(h:eM)(pos f cO:Int):Bool:=match h.low[(f-1).toNat]?,h.high[(f-1).toNat]? with
 |some a,some b=>om cO (wr (pos+a)) (wr (pos+b))
 |_,_=>false
theorem f244_eq(h:eM)(hh:ou h)(pos f cO:Int)(h1:1<=f)(h2:f<=h.low.length):f244 h pos f cO=some (wc h pos f cO):=by
 have hi:=hh.hi;have h4:=hh.n4;have e:wr (f-1)=(((f-1).toNat:Nat):Int):=by rw[iZ (by omega) (by omega)];omega
 have e1:h.low[(f-1).toNat]? =some (h.low[(f-1).toNat]'(by omega)):=dR _;have e2:h.high[(f-1).toNat]? =some (h.high[(f-1).toNat]'(by omega)):=dR _;unfold f244 wc;simp only[e,cJ e1,cJ e2,e1,e2,dm,f66_in]
def ow(p q:be)(f g:Int):Bool:=if p.cO<q.cO then decide (f<g)else if q.cO<p.cO then decide (g<f)else if p.aY<q.aY then decide (g<=f)else decide (f<=g)
theorem f245_eq(p q:be)(f g:Int):f245 p q f g=some (ow p q f g):=by
 unfold f245 ow;by_cases h1:p.cO<q.cO
 ·simp[h1]
 by_cases h2:q.cO<p.cO
 ·simp[h1,h2]
 by_cases h3:p.aY<q.aY
 ·simp[h1,h2,h3]
 ·simp[h1,h2,h3]
structure FM (h:eM) (c:cq) (pos:Int) (fs:List Int):Prop where
 len:fs.length<=c.cV.length
 fit: ∀(i:Nat)f p,fs[i]? =some f->c.cV[i]? =some p->1<=f/\f<=h.low.length/\wc h pos f p.cO=true
 agr: ∀(i j:Nat)f g p q,i<j->fs[i]? =some f->fs[j]? =some g->c.cV[i]? =some p->c.cV[j]? =some q->ow p q f g=true
structure Fit (h:eM) (c:cq) (g:cG):Prop where
 p1:1<=g.pos
 p2:g.pos<=h.top
 len:g.dC.length=c.cV.length
 fit:FM h c g.pos g.dC
 sp:f243 h c g.dC=some true
theorem f22_1_eq(l:List Int)(h:cH l):f22_1 l=some l:=by
 unfold f22_1;by_cases c:l=[]
 ·subst c;simp
 ·have:l.length<=bQ:=by simp only[cH]at h;unfold bQ;omega
  rw[show l.isEmpty=false from by simpa using c];simp[cX this]
theorem N8:4194304<cQ:=by unfold cQ;omega
theorem FM.snoc{h:eM}{c:cq}{pos:Int}{fs:List Int}{f:Int}{p:be}(hf:FM h c pos fs)(hp:c.cV[fs.length]? =some p)(h1:1<=f)(h2:f<=h.low.length)(h3:wc h pos f p.cO=true)
  (h4: ∀(i:Nat)g q,fs[i]? =some g->c.cV[i]? =some q->ow q p g f=true):FM h c pos (fs++[f]):=by
 have gl:=(fT.1 hp).1;refine⟨by simp;omega,λi g q hg hq=>?_,λi j g1 g2 q1 q2 oI e1 e2 e3 e4=>?_⟩
 ·by_cases hi:i<fs.length
  ·rw[nD hi]at hg;exact hf.fit i g q hg hq
  ·have hl:=(fT.1 hg).1;simp at hl;have:i=fs.length:=by omega
   subst this;rw[hp]at hq;cases hq;simp at hg;subst hg;exact⟨h1,h2,h3⟩
 ·have hl:=(fT.1 e2).1;simp at hl;have hi:i<fs.length:=by omega
  rw[nD hi]at e1;by_cases hj:j<fs.length
  ·rw[nD hj]at e2;exact hf.agr i j g1 g2 q1 q2 oI e1 e2 e3 e4
  ·have:j=fs.length:=by omega
   subst this;rw[hp]at e4;cases e4;simp at e2;subst e2;exact h4 i g1 q1 e1 e3
theorem f242_ex(h:eM)(hh:ou h)(c:cq)(pos:Int)(Uv:1<=pos)(hp2:pos<=h.top)(hd:c.cV.length<=14)(ho:cH c.dz): ∀(fu:Nat)(fs:List Int)(l:List cG),FM h c pos fs->c.cV.length-fs.length<fu->
  l.length<=201->(fs.length=c.cV.length->l.length<=200)->
  ∃r,f242r fu pos fs c h l=some r/\(r.1=fs/\ ∃m,r.2=l++m/\(l++m).length<=201/\ ∀g∈m,g.pos=pos/\Fit h c g)
 |0,fs,l,hf,hu,hl,D0=>by omega
 |fu+1,fs,l,hf,hu,hl,D0=>by
  have dJ:=hf.len;have hsd:cH c.cV:=by simp only[cH];omega
  have hsf:cH fs:=by simp only[cH];omega
  have hn4:=hh.n4;unfold f242r;by_cases he:fs.length=c.cV.length
  ·have e:decide ((fs.length:Int)=(c.cV.length:Int))=true:=by simp[he]
   simp only[e,dt];obtain⟨b,hb,_⟩:=f243_ex h c fs hn4 hh.ba he hsd ho;have D0:=D0 he;have m1:l.length+1<=bQ:=by unfold bQ;omega
   simp only[hb,dm,f22_1_eq fs hsf,cX m1];cases b
   ·exact⟨_,rfl,rfl,[],by simp,by simpa using hl,λg hg=>by simp at hg⟩
   ·refine⟨_,rfl,rfl,[⟨pos,fs⟩],rfl,by simp;omega,λg hg=>?_⟩;simp at hg;subst hg;exact⟨rfl,Uv,hp2,he,hf,hb⟩
  ·have e:decide ((fs.length:Int)=(c.cV.length:Int))=false:=by simp;omega
   simp only[e,dD];have gl:fs.length<c.cV.length:=by omega
   have p0:c.cV[fs.length]? =some (c.cV[fs.length]'gl):=dR _;generalize c.cV[fs.length]'gl=p at p0;refine fc (λk(s:List Int×List cG×Int)=>s.1=fs/\s.2.2=((k+1:Nat):Int)/\ ∃m,s.2.1=l++m/\(l++m).length<=201/\ ∀g∈m,g.pos=pos/\Fit h c g)
    (λr=>r.1=fs/\ ∃m,r.2=l++m/\(l++m).length<=201/\ ∀g∈m,g.pos=pos/\Fit h c g) h.low.length (by omega) ⟨rfl,rfl,[],by simp,by simpa using hl,λg hg=>by simp at hg⟩ ?_ ?_ ?_
   ·rintro k ⟨s1,s2,s3⟩ hk ⟨e1,e2,m,e3,DZ,HR⟩;simp only at e1 e2 e3;subst e1;subst e2;subst e3;have c0:((k+1:Nat):Int)<=(h.low.length:Int):=by omega
    simp only[c0,ij,dt,dm];by_cases c1:((l++m).length:Int)<=200
    ·simp only[c1,ij,dt,cJ p0,dm,f244_eq h hh pos _ p.cO (show 1<=((k+1:Nat):Int)by omega) c0];rw[fH (by omega)];cases hr:wc h pos ((k+1:Nat):Int) p.cO
     ·exact .inl ⟨_,rfl,rfl,rfl,m,rfl,DZ,HR⟩
     simp only[qc,dD];have key: ∃o,cA (σ:=Int) (τ:=(Unit⊕(List Int×List cG))) (λ(Jo:Int)=>bif (decide (Jo<(s1.length:Int)))then((ix s1 Jo).bind λVI=>(ix c.cV Jo).bind λVK=>(f245 VK p VI ((k+1:Nat):Int)).bind λr14=>bif (!r14)then(some (.inr (.inr (s1,l++m))))else(some (.inl (wr (Jo+1)))))else(some (.inr (.inl ())))) cQ 0=some o/\
       (match o with
        |.inl _=> ∀(i:Nat)g q,s1[i]? =some g->c.cV[i]? =some q->ow q p g ((k+1:Nat):Int)=true
        |.inr x=>x=(s1,l++m)):=by
      refine jQ (λn(s:Int)=>s=(n:Int)/\ ∀(i:Nat)g q,i<n->s1[i]? =some g->c.cV[i]? =some q->ow q p g ((k+1:Nat):Int)=true) _ s1.length hsf ⟨rfl,λi g q h=>by omega⟩ ?_ ?_
      ·rintro n s hn ⟨rfl,hi⟩;have g1:s1[n]? =some (s1[n]'hn):=dR _;have g2:c.cV[n]? =some (c.cV[n]'(by omega)):=dR _;simp only[dr g1,dt,cJ g1,cJ g2,dm,eT hsf g1,f245_eq];cases ha:ow (c.cV[n]'(by omega)) p (s1[n]'hn) ((k+1:Nat):Int)
       ·exact .inr ⟨_,rfl,rfl⟩
       ·refine .inl ⟨_,rfl,rfl,λi g q fB hg hq=>?_⟩;by_cases gl:i<n
        ·exact hi i g q gl hg hq
        ·have:i=n:=by omega
         subst this;rw[g1]at hg;rw[g2]at hq;cases hg;cases hq;exact ha
      ·rintro s ⟨rfl,hi⟩;simp only[oF,fq,dD];exact⟨_,rfl,λi g q hg hq=>hi i g q (fT.1 hg).1 hg hq⟩
     obtain⟨o,k1,k2⟩:=key;simp only[k1,dm];cases o with
     |inr x=>
      simp only at k2;subst k2;exact .inl ⟨_,rfl,rfl,rfl,m,rfl,DZ,HR⟩
     |inl _=>
      simp only at k2;have m1:s1.length+1<=bQ:=by unfold bQ;omega
      have hpf:=hf.snoc p0 (f:=((k+1:Nat):Int)) (by omega) c0 hr k2;obtain⟨r,r1,r2,m',r3,r4,r5⟩:=f242_ex h hh c pos Uv hp2 hd ho fu (s1++[((k+1:Nat):Int)]) (l++m) hpf (by simp;omega) DZ (λ_=>by omega);have n1:(0:Int)<=(s1.length:Int):=by omega
      have n2:((s1.length:Int)).toNat<=r.1.length:=by rw[r2];simp
      simp only[vn,cX m1,r1,dm,cX n1,cX n2];refine .inl ⟨_,rfl,?_,rfl,m++m',by rw[r3];simp,by simpa[Ig]using r4,λg hg=>?_⟩
      ·rw[r2];simp
      ·rcases lT.1 hg with hg|hg
       ·exact HR g hg
       ·exact r5 g hg
    ·simp only[c1,fq,dD];exact .inr ⟨_,rfl,rfl,m,rfl,DZ,HR⟩
   ·rintro⟨s1,s2,s3⟩ ⟨e1,e2,m,e3,DZ,HR⟩;simp only at e1 e2 e3;subst e1;subst e2;subst e3;have c0: ¬(((h.low.length+1:Nat):Int)<=(h.low.length:Int)):=by omega
    simp only[c0,fq,dD,dm];exact⟨_,rfl,rfl,m,rfl,DZ,HR⟩
   ·rintro⟨s1,s2⟩ ⟨e1,m,e2,DZ,HR⟩;exact⟨_,rfl,e1,m,e2,DZ,HR⟩
theorem Ac(h:eM)(c:cq)(pos:Int):FM h c pos []:=⟨by simp,λi f p h=>by simp at h,λi j f g p q _ h=>by simp at h⟩
theorem f210_ex(h:eM)(hh:ou h)(c:cq)(hd:c.cV.length<=14)(ho:cH c.dz): ∃l,f210 h c=some l/\(l.length<=201/\ ∀g∈l,Fit h c g):=by
 have t2:=hh.t2;have t1:=hh.t1;unfold f210;refine fc (λk(s:List cG×List Int×Int)=>s.2.1=[]/\s.2.2=((k+1:Nat):Int)/\s.1.length<=201/\(c.cV.length=0->s.1.length<=k)/\ ∀g∈s.1,Fit h c g) (λl=>l.length<=201/\ ∀g∈l,Fit h c g) h.top.toNat (by omega) ⟨rfl,rfl,by simp,λ_=>by simp,λg hg=>by simp at hg⟩ ?_ ?_ ?_
 ·rintro k ⟨s1,s2,s3⟩ hk ⟨e1,e2,h1,h2,h3⟩;simp only at e1 e2 h1 h2 h3;subst e1;subst e2;have c0:((k+1:Nat):Int)<=h.top:=by omega
  have hb:=N8;by_cases hz:c.cV.length=0
  ·have e0:c.cV=[]:=Gs hz;obtain⟨b,hb,uj⟩:=f243_ex h c [] hh.n4 hh.ba (by simp[e0]) (by simp[cH,e0]) ho;have uj:=uj (by simp);subst uj;have m1:s1.length+1<=bQ:=by unfold bQ;omega
   have hF:cQ=(cQ-1)+1:=by omega
   have DV:(([]:List Int).length:Int)=(c.cV.length:Int):=by simp[e0]
   simp only[c0,ij,dt,f242];rw[hF];simp only[f242r,DV,ij,dt,hb,dm,f22_1_eq [] (by simp[cH]),cX m1];rw[fH (by omega)];refine .inl ⟨_,rfl,rfl,rfl,by simp;have:=h2 hz;omega,λ_=>by simp;exact h2 hz,λg hg=>?_⟩;rcases lT.1 hg with hg|hg
   ·exact h3 g hg
   ·simp at hg;subst hg;exact⟨by show(1:Int)<=((k+1:Nat):Int);omega,c0,by simp[e0],Ac h c _,hb⟩
  ·obtain⟨r,r1,r2,m,r3,r4,r5⟩:=f242_ex h hh c ((k+1:Nat):Int) (by omega) c0 hd ho cQ [] s1 (Ac h c _) (by omega) h1 (λh=>by simp at h;omega);simp only[c0,ij,dt,f242,r1,dm];rw[fH (by omega)];refine .inl ⟨_,rfl,r2,rfl,by rw[r3];exact r4,λh=>absurd h hz,λg hg=>?_⟩;rw[r3]at hg;rcases lT.1 hg with hg|hg
   ·exact h3 g hg
   ·exact(r5 g hg).2
 ·rintro⟨s1,s2,s3⟩ ⟨e1,e2,h1,h2,h3⟩;simp only at e1 e2 h1 h2 h3;subst e1;subst e2;have c0: ¬(((h.top.toNat+1:Nat):Int)<=h.top):=by omega
  simp only[c0,fq,dD];exact⟨_,rfl,h1,h3⟩
 ·intro l hl;exact⟨l,rfl,hl⟩
theorem N9(p q:be):jX p q=decide (p=q):=by
 unfold jX;cases p;cases q;simp[Bool.decide_and]
theorem f213_ex(h:eM)(hh:ou h)(c:cq)(g:cG)(hd:cH c.cV)(hf:cH g.dC)(ho:cH c.dz): ∃b,f213 h c g=some b/\(b=true↔Fit h c g):=by
 have vq:c.cV.length<=4194304:=hd;have Eh:g.dC.length<=4194304:=hf;unfold f213;refine fR (P1:=λj=>j=false↔(1<=g.pos/\g.pos<=h.top/\g.dC.length=c.cV.length)) ?_ ?_
 ·simp only[f66_in,dm];cases h1:om g.pos 1 h.top
  ·refine⟨true,rfl,?_⟩;simp[om]at h1 |-
   intro h2 h3;omega
  ·refine⟨_,rfl,?_⟩;simp[om]at h1 |-
   constructor
   ·intro h2;exact⟨h1.1,h1.2,by omega⟩
   ·intro h2;omega
 intro j hj;cases j
 case true=>exact⟨false,rfl,by simp at hj;simp;exactλhF=>hj hF.p1 hF.p2 hF.len⟩
 obtain⟨p1,p2,hl⟩:=hj.1 rfl;simp only[dD];refine fc (λk(s:Int)=>s=(k:Int)/\FM h c g.pos (g.dC.take k)) (λo=>match o with
  |.inl _=>FM h c g.pos g.dC
  |.inr b=>b=false/\ ¬Fit h c g) g.dC.length Eh ⟨rfl,by simpa using Ac h c g.pos⟩ ?_ ?_ ?_
 ·rintro k s hk ⟨rfl,hp⟩;have e1:g.dC[k]? =some (g.dC[k]'hk):=dR _;have e2:c.cV[k]? =some (c.cV[k]'(by omega)):=dR _;generalize g.dC[k]'hk=f at e1;generalize c.cV[k]'(by omega)=p at e2;have hlk:(g.dC.take k).length=k:=by simp;omega
  simp only[dr e1,dt,cJ e1,dm,eT hf e1,f66_in];cases c1:om f 1 (h.low.length:Int)
  ·simp only[Lz,dt,dm];refine .inr ⟨_,rfl,rfl,λhF=>?_⟩;have:=hF.fit.fit k f p e1 e2;simp[om]at c1;omega
  simp only[om,fE,AE]at c1;simp only[qc,dD,cJ e2,dm,f244_eq h hh g.pos f p.cO c1.1 c1.2];cases c2:wc h g.pos f p.cO
  ·simp only[Lz,dt];exact .inr ⟨_,rfl,rfl,λhF=>by have:=(hF.fit.fit k f p e1 e2).2.2;rw[c2]at this;cases this⟩
  simp only[qc,dD];have key: ∃o,cA (σ:=Int) (τ:=(Unit⊕(Int⊕(Unit⊕Bool)))) (λ(Jp:Int)=>bif (decide (Jp<(k:Int)))then((ix c.cV Jp).bind λVI=>(ix g.dC Jp).bind λVJ=>(f245 VI p VJ f).bind λr15=>bif (!r15)then(some (.inr (.inr (.inr (.inr false)))))else(some (.inl (wr (Jp+1)))))else(some (.inr (.inl ())))) cQ 0=some o/\
    (match o with
     |.inl _=> ∀(i:Nat)g' q,(g.dC.take k)[i]? =some g'->c.cV[i]? =some q->ow q p g' f=true
     |.inr x=>x=.inr (.inr false)/\ ¬Fit h c g):=by
   refine jQ (λn(s:Int)=>s=(n:Int)/\ ∀(i:Nat)g' q,i<n->(g.dC.take k)[i]? =some g'->c.cV[i]? =some q->ow q p g' f=true) _ k (by omega) ⟨rfl,λi g q h=>by omega⟩ ?_ ?_
   ·rintro n s hn ⟨rfl,hi⟩;have g1:g.dC[n]? =some (g.dC[n]'(by omega)):=dR _;have g2:c.cV[n]? =some (c.cV[n]'(by omega)):=dR _;have c3:(n:Int)<(k:Int):=by omega
    simp only[c3,ij,dt,cJ g1,cJ g2,dm,eT hf g1,f245_eq];cases ha:ow (c.cV[n]'(by omega)) p (g.dC[n]'(by omega)) f
    ·exact .inr ⟨_,rfl,rfl,λhF=>by have:=hF.fit.agr n k _ f _ p hn g1 e1 g2 e2;rw[ha]at this;cases this⟩
    ·refine .inl ⟨_,rfl,rfl,λi g' q fB hg hq=>?_⟩;by_cases gl:i<n
     ·exact hi i g' q gl hg hq
     ·have:i=n:=by omega
      subst this;rw[List.getElem?_take_of_lt hn,g1]at hg;rw[g2]at hq;cases hg;cases hq;exact ha
   ·rintro s ⟨rfl,hi⟩;simp only[oF,fq,dD];exact⟨_,rfl,λi g' q hg hq=>hi i g' q (by have:=(fT.1 hg).1;omega) hg hq⟩
  obtain⟨o,k1,k2⟩:=key;simp only[k1,dm];cases o with
  |inr x=>
   obtain⟨k2,k3⟩:=k2;subst k2;exact .inr ⟨_,rfl,rfl,k3⟩
  |inl _=>
   refine .inl ⟨_,rfl,rfl,?_⟩;rw[dj e1];exact hp.snoc (by rw[hlk];exact e2) c1.1 c1.2 c2 k2
 ·rintro s ⟨rfl,hp⟩;simp only[oF,fq,dD];exact⟨_,rfl,by simpa using hp⟩
 intro o ho2;cases o with
 |inr b=>obtain⟨rfl,h⟩:=ho2;exact⟨false,rfl,by simpa using h⟩
 |inl _=>
  obtain⟨b,hb,_⟩:=f243_ex h c g.dC hh.n4 hh.ba hl hd ho;simp only[vn,f243_one,hb,dm];refine⟨b,rfl,λe=>by subst e;exact⟨p1,p2,hl,ho2,hb⟩,λhF=>?_⟩;have:=hF.sp;rw[hb]at this;exact Option.some.inj this
def mS(a b:cq):Prop:= ∀x∈b.held,∃(i j:Nat)(p:be),iF (mn x) a.cV=(i:Int)/\iF (mn x) b.cV=(j:Int)/\a.cV[i]? =some p/\b.cV[j]? =some p
theorem f246_ex(a b:cq)(ha:cH a.cV)(hb:cH b.cV)(hh:cH b.held)(hr: ∀x∈b.held,b.cV.any (mn x)=true): ∃r,f246 a b=some r/\(r=true↔mS a b):=by
 have hh':b.held.length<=4194304:=hh;unfold f246;refine fc (λk(s:Int)=>s=(k:Int)/\ ∀x∈b.held.take k,∃(i j:Nat)(p:be),iF (mn x) a.cV=(i:Int)/\iF (mn x) b.cV=(j:Int)/\a.cV[i]? =some p/\b.cV[j]? =some p) (λo=>match o with
  |.inl _=>mS a b
  |.inr r=>r=false/\ ¬mS a b) b.held.length hh' ⟨rfl,λx hx=>by simp at hx⟩ ?_ ?_ ?_
 ·rintro k s hk ⟨rfl,hi⟩;have e1:b.held[k]? =some (b.held[k]'hk):=dR _;generalize b.held[k]'hk=x at e1;have hm:=gT e1;simp only[dr e1,dt,cJ e1,dm,eT hh e1,f241_eq a x ha,f241_eq b x hb,Ds];obtain⟨j,q,j1,j2,j3⟩:=uV (hr x hm);cases c1:a.cV.any (mn x)
  ·simp only[Lz,dt,dm];refine .inr ⟨_,rfl,rfl,λhF=>?_⟩;obtain⟨i,j',p,h1,_⟩:=hF x hm;have:=gz (p:=mn x) (l:=a.cV);rw[c1,h1]at this;simp at this
  ·obtain⟨i,p,i1,i2,i3⟩:=uV c1;simp only[qc,dD,i1,j1,cJ i2,cJ j2,dm,N9];by_cases hpq:p=q
   ·subst hpq;simp only[ij,qc,dD];refine .inl ⟨_,rfl,rfl,λy hy=>?_⟩;rw[dj e1,lT]at hy;rcases hy with hy|hy
    ·exact hi y hy
    ·simp at hy;subst hy;exact⟨i,j,p,i1,j1,i2,j2⟩
   ·simp only[hpq,fq,Lz,dt];refine .inr ⟨_,rfl,rfl,λhF=>?_⟩;obtain⟨i',j',p',h1,h2,h3,h4⟩:=hF x hm;rw[i1]at h1;rw[j1]at h2;have e1:i=i':=by omega
    have e2:j=j':=by omega
    subst e1;subst e2;rw[i2]at h3;rw[j2]at h4;cases h3;cases h4;exact hpq rfl
 ·rintro s ⟨rfl,hi⟩;simp only[oF,fq,dD];exact⟨_,rfl,λx hx=>hi x (by simpa using hx)⟩
 intro o ho;cases o with
 |inr r=>obtain⟨rfl,h⟩:=ho;exact⟨false,rfl,by simpa using h⟩
 |inl _=>exact⟨true,rfl,by simpa using ho⟩
structure kv (c:cq):Prop where
 d:cH c.cV
 h:cH c.held
 o:cH c.dz
theorem f212_ex(a b:cq)(ha:kv a)(hb:kv b): ∃r,f212 [a,b]=some r/\(r=0↔gP a/\gP b/\mS a b):=by
 unfold f212;have c0: ¬(400<(([a,b]:List cq).length:Int)):=by simp
 simp only[c0,fq,dD];refine fc (λk(s:Int)=>s=(k:Int)/\(0<k->gP a)/\(1<k->gP b/\mS a b)) (λo=>match o with
  |.inl _=>gP a/\gP b/\mS a b
  |.inr r=>r=1/\ ¬(gP a/\gP b/\mS a b)) 2 (by omega) ⟨rfl,λh=>by omega,λh=>by omega⟩ ?_ ?_ ?_
 ·rintro k s hk ⟨rfl,h1,h2⟩;obtain⟨ra,ea,pa⟩:=f209_ex a ha.d ha.h ha.o;obtain⟨rb,eb,pb⟩:=f209_ex b hb.d hb.h hb.o;have ky:k=0\/k=1:=by omega
  rcases ky with rfl|rfl
  ·have g0:ix ([a,b]:List cq) ((0:Nat):Int)=some a:=rfl;have c1:(((0:Nat):Int)<(([a,b]:List cq).length:Int)):=by simp
   have c2: ¬((0:Int)<((0:Nat):Int)):=by simp
   simp only[c1,ij,dt,g0,dm,ea,c2,fq,dD];rw[fH (by omega)];cases ra
   ·exact .inr ⟨_,rfl,rfl,λh=>by have:=pa.2 h.1;cases this⟩
   ·exact .inl ⟨_,rfl,rfl,λ_=>pa.1 rfl,λh=>by omega⟩
  ·have g0:ix ([a,b]:List cq) ((1:Nat):Int)=some b:=rfl;have g1:ix ([a,b]:List cq) (wr (((1:Nat):Int)-1))=some a:=rfl;have c1:(((1:Nat):Int)<(([a,b]:List cq).length:Int)):=by simp
   have c2:((0:Int)<((1:Nat):Int)):=by simp
   simp only[c1,ij,dt,g0,g1,dm,eb,c2];rw[fH (by omega)];cases rb
   ·exact .inr ⟨_,rfl,rfl,λh=>by have:=pb.2 h.2.1;cases this⟩
   ·have hrb:=pb.1 rfl;obtain⟨rf,ef,pf⟩:=f246_ex a b ha.d hb.d hb.h hrb.hd;simp only[qc,dD,ef,dm];cases rf
    ·exact .inr ⟨_,rfl,rfl,λh=>by have:=pf.2 h.2.2;cases this⟩
    ·exact .inl ⟨_,rfl,rfl,λ_=>h1 (by omega),λ_=>⟨hrb,pf.1 rfl⟩⟩
 ·rintro s ⟨rfl,h1,h2⟩;have c1: ¬(((2:Nat):Int)<(([a,b]:List cq).length:Int)):=by simp
  simp only[c1,fq,dD];exact⟨_,rfl,h1 (by omega),h2 (by omega)⟩
 intro o ho;cases o with
 |inr r=>obtain⟨rfl,h⟩:=ho;exact⟨1,rfl,by simpa using h⟩
 |inl _=>exact⟨0,rfl,by simpa using ho⟩
theorem f248_ex(c:cq)(g:cG)(f:Int)(hl:g.dC.length=c.cV.length)(hs:cH c.cV): ∃l,f248 c g f=some l/\cH l:=by
 have nZ:c.cV.length<=4194304:=hs;unfold f248;refine fc (λk(s:List be×Int)=>s.2=(k:Int)/\s.1.length<=k) (λl=>cH l) g.dC.length (by omega) ⟨rfl,by simp⟩ ?_ ?_ ?_
 ·rintro k ⟨s1,s2⟩ hk ⟨e,h1⟩;simp only at e h1;subst e;have e1:g.dC[k]? =some (g.dC[k]'hk):=dR _;have e2:c.cV[k]? =some (c.cV[k]'(by omega)):=dR _;have m1:s1.length+1<=bQ:=by unfold bQ;omega
  simp only[dr e1,dt,cJ e1,cJ e2,dm,eT (l:=g.dC) (by simp only[cH];omega) e1,cX m1];cases decide (g.dC[k]'hk=f)
  ·exact .inl ⟨_,rfl,rfl,by show s1.length<=k+1;omega⟩
  ·exact .inl ⟨_,rfl,rfl,by simp;omega⟩
 ·rintro⟨s1,s2⟩ ⟨e,h1⟩;simp only at e h1;subst e;simp only[oF,fq,dD];exact⟨_,rfl,by simp only[cH];omega⟩
 ·intro l hl;exact⟨l,rfl,hl⟩
theorem f206_2_ex(l m:List be)(hl:cH l)(hm:cH m): ∃b,f206_2 l m=some b/\True:=by
 have h1: ∀y,f249 y m=some (m.any λz=>jX y z):=by
  intro y;unfold f249 f250 f266;rw[fZ m (λz=>jX y z) (λi _=>(i:Int)) hm]
  ·simp only[dm,gJ];rw[<-gz];unfold iF;cases m.findIdx? _<;>simp
  ·intro i z hz;simp only[dr hz,dt,cJ hz,dm];cases jX y z<;>rfl
  ·simp
 unfold f206_2 f231_3;rw[fZ l (λy=>m.any λz=>jX y z) (λi _=>(i:Int)) hl]
 ·simp only[dm,gJ];cases l.findIdx? _<;>exact⟨_,rfl,trivial⟩
 ·intro i y hy;simp only[dr hy,dt,cJ hy,dm,h1];cases m.any λz=>jX y z<;>rfl
 ·simp
structure Dt (h:eM) (a:cq) (g:cG) (b:cq) (k:cG):Prop where
 hold: ∀x∈b.held,∀i j:Nat,iF (mn x) a.cV=(i:Int)->iF (mn x) b.cV=(j:Int)->g.dC[i]? =k.dC[j]?
 move: ¬(0<a.cV.length/\0<b.cV.length/\h.jump<kX (wr (g.pos-k.pos)) (wr (k.pos-g.pos)))
theorem f214_ex(h:eM)(hh:ou h)(a:cq)(g:cG)(b:cq)(k:cG)(ha:kv a)(hb:kv b)(fa:Fit h a g)(fb:Fit h b k)(hf:mS a b): ∃r,f214 h a g b k=some r/\(r.2=true↔Dt h a g b k):=by
 have hbh:b.held.length<=4194304:=hb.h;have hn4:=hh.n4;unfold f214;refine fc (λn(s:Int)=>s=(n:Int)/\ ∀x∈b.held.take n,∀i j:Nat,iF (mn x) a.cV=(i:Int)->iF (mn x) b.cV=(j:Int)->g.dC[i]? =k.dC[j]?) (λo=>match o with
  |.inl _=> ∀x∈b.held,∀i j:Nat,iF (mn x) a.cV=(i:Int)->iF (mn x) b.cV=(j:Int)->g.dC[i]? =k.dC[j]?
  |.inr r=>r.2=false/\ ¬Dt h a g b k) b.held.length hbh ⟨rfl,λx hx=>by simp at hx⟩ ?_ ?_ ?_
 ·rintro n s hn ⟨rfl,hi⟩;have e1:b.held[n]? =some (b.held[n]'hn):=dR _;generalize b.held[n]'hn=x at e1;have hm:=gT e1;obtain⟨i,j,p,i1,j1,i2,j2⟩:=hf x hm;have vo:=(fT.1 i2).1;have NN:=(fT.1 j2).1;have g1:g.dC[i]? =some (g.dC[i]'(by rw[fa.len];exact vo)):=dR _;have g2:k.dC[j]? =some (k.dC[j]'(by rw[fb.len];exact NN)):=dR _;generalize g.dC[i]'(by rw[fa.len];exact vo)=y1 at g1;generalize k.dC[j]'(by rw[fb.len];exact NN)=y2 at g2;simp only[dr e1,dt,cJ e1,dm,eT hb.h e1,f241_eq a x ha.d,f241_eq b x hb.d,i1,j1,cJ g1,cJ g2];by_cases hy:y1=y2
  ·subst hy;simp only[rz,xb,fq,dD];refine .inl ⟨_,rfl,rfl,λy hy i' j' h1 h2=>?_⟩;rw[dj e1,lT]at hy;rcases hy with hy|hy
   ·exact hi y hy i' j' h1 h2
   ·simp at hy;subst hy;have ei:i'=i:=by omega
    have ej:j'=j:=by omega
    subst ei;subst ej;rw[g1,g2]
  ·simp only[rz,hy,O4,ij,dt];refine .inr ⟨_,rfl,rfl,λhS=>?_⟩;have:=hS.hold x hm i j i1 j1;rw[g1,g2]at this;exact hy (Option.some.inj this)
 ·rintro s ⟨rfl,hi⟩;simp only[oF,fq,dD];exact⟨_,rfl,λx hx=>hi x (by simpa using hx)⟩
 intro o ho;cases o with
 |inr r=>obtain⟨h1,h2⟩:=ho;exact⟨r,rfl,by rw[h1];simpa using h2⟩
 |inl _=>
 simp only at ho;simp only[vn,f247,dm];generalize DY:kX (wr (g.pos-k.pos)) (wr (k.pos-g.pos))=mv;refine fR (P1:=λj=>j=true↔(0<a.cV.length/\0<b.cV.length)) ?_ ?_
 ·by_cases c1:0<(a.cV.length:Int)
  ·by_cases c2:0<(b.cV.length:Int)
   ·simp only[c1,c2,ij,dt];exact⟨_,rfl,by simp;omega⟩
   ·simp only[c1,c2,ij,fq,dt];exact⟨_,rfl,⟨λh=>(by cases h),λh=>(by omega)⟩⟩
  ·simp only[c1,fq,dD];exact⟨_,rfl,⟨λh=>(by cases h),λh=>(by omega)⟩⟩
 intro j2 VM;refine fR (P1:=λj=>j=true↔(0<a.cV.length/\0<b.cV.length/\h.jump<mv)) ?_ ?_
 ·cases j2
  ·exact⟨false,rfl,⟨λh=>(by cases h),λh=>absurd (VM.2 ⟨h.1,h.2.1⟩) (by simp)⟩⟩
  ·have:=VM.1 rfl;refine⟨decide (h.jump<mv),rfl,?_⟩;simp[this]
 intro j3 hj3;cases j3
 case true=>
  refine⟨_,rfl,?_⟩;simp;intro hS;exact hS.move (by rw[DY];exact hj3.1 rfl)
 simp only[dD];have hS:Dt h a g b k:=⟨ho,λhm=>by rw[DY]at hm;have:=hj3.2 hm;cases this⟩;refine fR (P1:=λ_=>True) ?_ ?_
 ·refine fR (P1:=λ_=>True) ?_ λb _=>?_
  ·cases j2
   ·exact⟨_,rfl,trivial⟩
   ·exact⟨_,rfl,trivial⟩
  ·cases b<;>exact⟨_,rfl,trivial⟩
 intro cost _;refine fc (λn(s:Int×Int)=>s.2=((n+1:Nat):Int)) (λ_=>True) h.low.length (by omega) rfl ?_ ?_ ?_
 ·rintro n ⟨s1,s2⟩ hn e;simp only at e;subst e;have c0:((n+1:Nat):Int)<=(h.low.length:Int):=by omega
  simp only[c0,ij,dt,dm];cases j2
  ·exact .inr ⟨_,rfl,trivial⟩
  obtain⟨l1,e1,p1⟩:=f248_ex a g ((n+1:Nat):Int) fa.len ha.d;obtain⟨l2,e2,p2⟩:=f248_ex b k ((n+1:Nat):Int) fb.len hb.d;obtain⟨bb,e3,_⟩:=f206_2_ex l1 l2 p1 p2;simp only[e1,e2,e3,dm,dt];rw[fH (by omega)];cases decide (0<(l1.length:Int))
  ·exact .inl ⟨_,rfl,rfl⟩
  cases decide (0<(l2.length:Int))
  ·exact .inl ⟨_,rfl,rfl⟩
  cases bb<;>exact .inl ⟨_,rfl,rfl⟩
 ·rintro⟨s1,s2⟩ e;simp only at e;subst e;have c0: ¬(((h.low.length+1:Nat):Int)<=(h.low.length:Int)):=by omega
  simp only[c0,fq,dD,dm];exact⟨_,rfl,trivial⟩
 ·intro r _;exact⟨_,rfl,by simpa using hS⟩
structure Steps (h:eM) (a:cq) (g:cG) (b:cq) (k:cG):Prop where
 ra:gP a
 rb:gP b
 fo:mS a b
 fa:Fit h a g
 fb:Fit h b k
 st:Dt h a g b k
theorem f165_ex(h:eM)(hh:ou h)(h0:f33 h=some 0)(a:cq)(g:cG)(b:cq)(k:cG)(ha:kv a)(hb:kv b)(sg:cH g.dC)(sk:cH k.dC): ∃r,f165 h a g b k=some r/\(r.2=0↔Steps h a g b k):=by
 unfold f165;rw[h0];simp only[dm,rz,xb,fq,dD];refine fR (f212_ex a b ha hb) λr hr=>?_;by_cases c1:r=0
 ·subst c1;obtain⟨r1,r2,r3⟩:=hr.1 rfl;simp only[xb,fq,dD];refine fR (P1:=λj=>j=false↔(Fit h a g/\Fit h b k)) ?_ ?_
  ·refine fR (f213_ex h hh a g ha.d sg ha.o) λb1 h1=>?_;cases b1
   ·exact⟨true,rfl,by simp at h1 |-;exactλh=>absurd h h1⟩
   ·refine fR (f213_ex h hh b k hb.d sk hb.o) λb2 h2=>⟨!b2,rfl,?_⟩;have:=h1.1 rfl;cases b2<;>simp_all
  intro j hj;cases j
  ·obtain⟨f1,f2⟩:=hj.1 rfl;simp only[dD];refine fR (f214_ex h hh a g b k ha hb f1 f2 r3) λr hr=>?_;obtain⟨n,ok⟩:=r;cases ok
   ·refine⟨_,rfl,?_⟩;simp at hr |-
    exactλh=>hr h.st
   ·exact⟨_,rfl,by simp;exact⟨r1,r2,r3,f1,f2,hr.1 rfl⟩⟩
  ·refine⟨_,rfl,?_⟩;simp at hj |-
   exactλh=>hj h.fa h.fb
 ·simp only[c1,O4,ij,dt];exact⟨_,rfl,λh=>absurd h c1,λh=>absurd (hr.2 ⟨h.ra,h.rb,h.fo⟩) c1⟩
end Go.Proofs.YtfdnjgoegamonaaGreatDoor
