/- Plain laws, joined by gen/joinH.py. -/
import Derived.Test.YtpbahncblggodaaGreatLq
import Derived.Test.YtpbahncblggodaaGreatTD
set_option linter.all false
namespace Go.Am
open Go.RowKit
theorem HL{σ τ:Type}{body:σ->Option (σ⊕τ)}(Inv:Nat->σ->Prop)(kQ:τ->Prop)(n:Nat)
  (hb: ∀k s,k<n->Inv k s->(∃s',body s=some (.inl s')/\Inv (k+1) s')\/(∃r,body s=some (.inr r)/\kQ r))
  (he: ∀s,Inv n s-> ∃r,body s=some (.inr r)/\kQ r): ∀(d k F:Nat)(s:σ),k+d=n->d<F->Inv k s-> ∃r,bY body F s=some r/\kQ r
 |0,k,F,s,hk,hF,hi=>by
  have:k=n:=by omega
  subst this
  obtain⟨r,h1,h2⟩:=he s hi
  cases F with
  |zero=>omega
  |succ F=>exact⟨r,by simp only[bY,h1],h2⟩
 |d+1,k,F,s,hk,hF,hi=>by
  cases F with
  |zero=>omega
  |succ F=>
   rcases hb k s (by omega) hi with⟨s',h1,h2⟩|⟨r,h1,h2⟩
   ·obtain⟨r,h3,h4⟩:=HL Inv kQ n hb he d (k+1) F s' (by omega) (by omega) h2
    exact⟨r,by simp only[bY,h1,h3],h4⟩
   ·exact⟨r,by simp only[bY,h1],h2⟩
theorem jJ{σ τ:Type}{body:σ->Option (σ⊕τ)}(Inv:Nat->σ->Prop)(kQ:τ->Prop)(n:Nat){s0:σ}(hn:n<=4194304)(h0:Inv 0 s0)
  (hb: ∀k s,k<n->Inv k s->(∃s',body s=some (.inl s')/\Inv (k+1) s')\/(∃r,body s=some (.inr r)/\kQ r))
  (he: ∀s,Inv n s-> ∃r,body s=some (.inr r)/\kQ r): ∃r,bY body cy s0=some r/\kQ r:=
 HL Inv kQ n hb he n 0 cy s0 (by omega) (by unfold cy;omega) h0
theorem gY{α β:Type}{x:Option α}{f:α->Option β}{P1:α->Prop}{P:β->Prop}(h1: ∃r,x=some r/\P1 r)(h2: ∀r,P1 r-> ∃z,f r=some z/\P z): ∃z,x.bind f=some z/\P z:=by
 obtain⟨r,e,hr⟩:=h1
 subst e
 exact h2 r hr
theorem de{α:Type}{p:Prop}[Decidable p]{x:Option α}(h:p):cr p x=x:=if_pos h
theorem VE{α:Type}{l:List α}{i:Int}{x:α}(k:Nat)(hi:i=(k:Int))(h:l[k]? =some x):ix l i=some x:=by subst hi;exact b9 h
theorem VF{α:Type}{b:Bool}{x y:Option α}{P:α->Prop}(h1:b=true-> ∃z,x=some z/\P z)(h2:b=false-> ∃z,y=some z/\P z): ∃z,(bif b then x else y)=some z/\P z:=by
 cases b
 ·exact h2 rfl
 ·exact h1 rfl
theorem jd{n:Int}(h1: -9223372036854775808<=n)(h2:n<=9223372036854775807):wr n=n:=su h1 h2
theorem eO{σ τ β:Type}{body:σ->Option (σ⊕τ)}{f:τ->Option β}{P:β->Prop}{s0:σ}(Inv:Nat->σ->Prop)(kQ:τ->Prop)(n:Nat)(hn:n<=4194304)(h0:Inv 0 s0)
  (hb: ∀k s,k<n->Inv k s->(∃s',body s=some (.inl s')/\Inv (k+1) s')\/(∃r,body s=some (.inr r)/\kQ r))
  (he: ∀s,Inv n s-> ∃r,body s=some (.inr r)/\kQ r) (k: ∀r,kQ r-> ∃z,f r=some z/\P z): ∃z,(bY body cy s0).bind f=some z/\P z:=
 gY (jJ Inv kQ n hn h0 hb he) k
end Go.Am
set_option linter.all false
namespace Go.Proofs.YtpbahncblggodaaGreat
open Go Go.Am
set_option maxRecDepth 100000
theorem f85_eq(a lo hi:Int):f85 a lo hi=some (decide (lo<=a)&&decide (a<=hi)):=by
 unfold f85
 cases decide (lo<=a)<;>rfl
def oL(a lo hi:Int):Bool:=decide (lo<=a)&&decide (a<=hi)
theorem f40_eq(a lo hi:Int):f40 a lo hi=some (oL a lo hi):=by
 unfold f40 oL
 cases decide (lo<=a)<;>rfl
theorem f75_eq(a lo hi:Int):f75 a lo hi=some (oL a lo hi):=f40_eq a lo hi
theorem Pc(a b:Bool):(bif a then some true else some b)=some (a||b):=by cases a<;>rfl
theorem Mm(x lo hi:Int):(!(oL x lo hi))=(decide (x<lo)||decide (hi<x)):=by
 unfold oL
 by_cases h1:x<lo<;>by_cases h2:hi<x<;>simp[h1,h2]<;>omega
theorem lR{α:Type}(l:List α)(p:α->Bool):l.any (λx=>!p x)=!(l.all p):=by simp[List.any_eq_not_all_not]
def yp(e:Int)(t:bV):Bool:=!(oL t.bW 0 127)||(decide (t.bX<e)||(decide (t.dr<=t.bX)||decide (262144<t.dr)))
def CN:Int->List bV->Bool
 |_,[]=>true
 |e,t::r=>!(yp e t)&&CN t.dr r
def tU(l:List (List bV)):Bool:=decide (6<l.length)||l.any λp=>decide (400<p.length)
def jA(l:List (List bV)):Int:=if tU l then 2 else if l.all (CN 0)then 0 else 80
theorem f138_eq(l:List (List bV))(hs:bT l):f138 l=some (gu (λp=>decide (400<p.length)) l):=by
 unfold f138
 rw[dP l (λp=>decide (400<p.length)) (λi _=>(i:Int)) hs]
 ·simp only[cH,fi,gu]
  cases l.findIdx? _<;>simp
 ·intro i y hy
  have e:decide (400<(y.length:Int))=decide (400<y.length):=by simp;omega
  simp only[cJ hy,cond_true,b9 hy,cH,f74,e]
  cases decide (400<y.length)<;>rfl
 ·simp
theorem f73_eq(l:List (List bV))(hs:bT l):f73 l=some (l.any λp=>decide (400<p.length)):=by
 unfold f73
 rw[f138_eq l hs]
 simp only[cH,fT]
def stepT{τ:Type}(c:τ):Nat->Int->bV->Int⊕(Unit⊕τ):=λ_ e t=>bif yp e t then .inr (.inr c)else .inl t.dr
theorem Mn{τ:Type}(c:τ): ∀(l:List bV)(k:Nat)(e:Int),jn (stepT c) (λ_=>.inl ()) k l e=bif CN e l then .inl ()else .inr c
 | [],_,_=>rfl
 |t::r,k,e=>by
  simp only[jn,stepT,CN]
  cases yp e t with
  |true=>rfl
  |false=>simp only[cond_false];rw[Mn c r];rfl
theorem f28_eq(l:List (List bV))(hs:bT l):f28 l=some (jA l):=by
 have VG:((bif (decide (6<(l.length:Int)))then(some true)else((f73 l).bind λr2=>some r2)):Option Bool)=some (tU l):=by
  rw[f73_eq l hs]
  unfold tU
  have e:decide (6<(l.length:Int))=decide (6<l.length):=by simp;omega
  rw[e]
  cases decide (6<l.length)<;>rfl
 unfold f28
 rw[VG]
 simp only[cH]
 cases hm:tU l with
 |true=>simp[jA,hm]
 |false=>
  simp only[cond_false]
  have dt: ∀p∈l,p.length<=400:=λp hp=>by
   simp only[tU,EH,Ny,decide_eq_true_eq]at hm
   have:=hm.2 p hp
   omega
  rw[dP l (λp=>!(CN 0 p)) (λ_ _=>80) hs]
  ·simp only[cH,uW,jA,hm,lR]
   cases l.all (CN 0)<;>rfl
  ·intro i p hp
   have DS:bT p:=by have:=dt p (gx hp);simp only[bT];omega
   simp only[cJ hp,cond_true,b9 hp,cH]
   rw[iW (λ(e:Int)i=>(e,i)) (stepT (τ:=Int⊕(Unit⊕Int)) (.inr (.inr 80))) (λ_=>.inl ()) p (λ_ _=>True) 0 (gT DS) trivial]
   ·rw[Mn]
    cases CN 0 p<;>rfl
   ·intro j e t ht _
    refine⟨?_,λ_ _=>trivial⟩
    simp only[cJ ht,cond_true,b9 ht,cH,f75_eq,stepT,yp,dB DS ht]
    cases oL t.bW 0 127<;>cases decide (t.bX<e)<;>cases decide (t.dr<=t.bX)<;>cases decide (262144<t.dr)<;>rfl
   ·intro e _;simp
  ·simp
theorem f82_eq(l:List bV)(hs:bT l):f82 l=some (CN 0 l):=by
 unfold f82
 rw[iW (λ(_:Int)i=>i) (stepT (τ:=Bool) false) (λ_=>.inl ()) l (λi e=>0<=e/\(i=0->e=0)/\ ∀j,i=j+1-> ∃p,l[j]? =some p/\e=p.dr) 0 (gT hs) ⟨Int.le_refl _,λ_=>rfl,λj h=>by cases h⟩]
 ·rw[Mn]
  cases CN 0 l<;>rfl
 ·intro i e t ht ⟨h0,h1,h2⟩
  constructor
  ·have hb:((bif (decide (t.bW<0))then(some true)else(bif (decide (127<t.bW))then(some true)else(bif (decide (t.bX<0))then(some true)else(bif (decide (t.dr<=t.bX))then(some true)else(bif (decide (262144<t.dr))then(some true)else(bif (decide (0<(i:Int)))then((ix l (wr ((i:Int)-1))).bind λy9=>some (decide (t.bX<y9.dr)))else(some false))))))):Option Bool)=some (yp e t):=by
    cases i with
    |zero=>
     have:=h1 rfl
     subst this
     have d6:decide (0<((0:Nat):Int))=false:=by simp
     simp only[d6,cond_false,Pc,yp,Mm,WO]
     cases decide (t.bW<0)<;>cases decide (127<t.bW)<;>cases decide (t.bX<0)<;>cases decide (t.dr<=t.bX)<;>cases decide (262144<t.dr)<;>rfl
    |succ j=>
     obtain⟨p,hp,rfl⟩:=h2 j rfl
     have hw:wr (((j+1:Nat):Int)-1)=(j:Int):=by
      have:=(fM.1 hp).1
      simp only[bT]at hs
      rw[su (by omega) (by omega)];omega
     rw[hw,b9 hp]
     have d6:decide (0<((j+1:Nat):Int))=true:=by simp <;>omega
     simp only[d6,cond_true,cH,Pc,yp,Mm,WO]
     by_cases c3:t.bX<0
     ·have c6:t.bX<p.dr:=by omega
      simp only[c3,c6,decide_true,Bool.true_or,Bool.or_true]
     ·have e3:decide (t.bX<0)=false:=by simpa using c3
      rw[e3]
      cases decide (t.bW<0)<;>cases decide (127<t.bW)<;>cases decide (t.bX<p.dr)<;>cases decide (t.dr<=t.bX)<;>cases decide (262144<t.dr)<;>rfl
   simp only[cJ ht,cond_true,b9 ht,cH]
   rw[hb]
   simp only[cH,stepT,dB hs ht]
   cases yp e t<;>rfl
  ·intro e' he
   simp only[stepT]at he
   cases hb:yp e t with
   |true=>rw[hb]at he;cases he
   |false=>
    rw[hb]at he
    cases he
    refine⟨?_,(λh=>by cases h),(λj hj=>by cases hj;exact⟨t,ht,rfl⟩)⟩
    simp only[yp,EH,decide_eq_false_iff_not]at hb
    omega
 ·intro e _;simp
theorem f33_eq(l:List (List bV))(hs:bT l):f33 l=some (jA l):=by
 unfold f33
 rw[iW (λ(b:Bool)i=>(b,i)) (λ_ b(p:List bV)=>(.inl (b||decide (400<p.length)):Bool⊕Bool)) (λb=>b) l (λ_ _=>True) (decide (6<(l.length:Int))) (gT hs) trivial]
 ·have key: ∀(r:List (List bV))(k:Nat)(b:Bool),jn (λ_ b(p:List bV)=>(.inl (b||decide (400<p.length)):Bool⊕Bool)) (λb=>b) k r b=(b||r.any λp=>decide (400<p.length)):=by
   intro r
   induction r with
   |nil=>intro k b;simp[jn]
   |cons p r ih=>intro k b;simp only[jn,ih,Ue,WO]
  rw[key]
  have e:decide (6<(l.length:Int))=decide (6<l.length):=by simp;omega
  rw[e]
  show(Option.bind (some (tU l)) _)=_
  simp only[cH]
  cases hm:tU l with
  |true=>simp[jA,hm]
  |false=>
   simp only[cond_false]
   have hp: ∀p∈l,bT p:=λp hp=>by
    simp only[tU,EH,Ny,decide_eq_true_eq]at hm
    have:=hm.2 p hp
    simp only[bT];omega
   rw[dP l (λp=>!(CN 0 p)) (λ_ _=>80) hs]
   ·simp only[cH,uW,jA,hm,lR]
    cases l.all (CN 0)<;>rfl
   ·intro i p ku
    simp only[cJ ku,cond_true,b9 ku,cH,f82_eq p (hp p (gx ku))]
    cases CN 0 p<;>rfl
   ·simp
 ·intro i b p ku _
  refine⟨?_,λ_ _=>trivial⟩
  have e:decide (400<(p.length:Int))=decide (400<p.length):=by simp;omega
  simp only[cJ ku,cond_true,b9 ku,cH,dB hs ku,e]
  cases b<;>rfl
 ·intro b _;simp
theorem jW{l:List (List bV)}(h:jA l=0):l.length<=6/\ ∀p∈l,p.length<=400/\CN 0 p=true:=by
 unfold jA at h
 split at h
 ·cases h
 ·rename_i h1
  split at h
  ·rename_i h2
   simp only[tU,sS,decide_eq_true_eq,w9,not_or,not_exists,not_and]at h1
   exact⟨by omega,λp hp=>⟨by have:=h1.2 p hp;omega,py.1 h2 p hp⟩⟩
  ·cases h
theorem F5(a b:Nat):decide ((a:Int)<(b:Int))=decide (a<b):=by
 by_cases h:a<b
 ·have:(a:Int)<b:=by omega
  simp[h,this]
 ·have: ¬(a:Int)<b:=by omega
  simp[h,this]
def kR:Int->List Int->Bool
 |_,[]=>true
 |e,y::r=>!(decide (y<=e)||decide (127<y))&&kR y r
def sv(s:List Int)(c:cK):Int:=bif decide (0<c.dz)then wr (c.bW+(s[(c.dz-1).toNat]?).getD 0)else c.bW
def zM(s:List Int)(c:cK):Int:=bif c.ja then wr (sv s c+12)else sv s c
def gC(s:List Int)(c:cK):Int:=
 bif decide (c.dz<0)||decide ((s.length:Int)<c.dz)then 13 else bif decide (c.bW<0)||(decide (127<c.bW)||decide (127<zM s c))then 10 else 0
def zN(s:List Int)(c:cK):Bool:=decide (gC s c≠0)
def instS(a:bK):Int:=
 bif decide (14<a.cj.length)||decide (18<a.bN.length)then 2 else bif decide (a.cj.length=0)then 11 else bif kR 0 a.bN then
  (match a.cj.find? (zN a.bN)with
   |some c=>gC a.bN c
   |none=>0)
 else 11
theorem f135_eq(a:bK)(c:cK)(h1:c.dz<=(a.bN.length:Int))(h2:a.bN.length<=18):f135 a c=some (zM a.bN c):=by
 unfold f135 zM sv
 by_cases h:0<c.dz
 ·have hw:wr (c.dz-1)=(((c.dz-1).toNat:Nat):Int):=by rw[su (by omega) (by omega)];omega
  have hl:(c.dz-1).toNat<a.bN.length:=by omega
  have hg:a.bN[(c.dz-1).toNat]? =some a.bN[(c.dz-1).toNat]:=dC hl
  have hd:decide (0<c.dz)=true:=by simpa using h
  simp only[hd,cond_true,hw,b9 hg,hg,cH,Bc]
  cases c.ja<;>rfl
 ·have hd:decide (0<c.dz)=false:=by simpa using h
  simp only[hd,cond_false,cH]
  cases c.ja<;>rfl
theorem sw: ∀(l:List Int)(k:Nat)(e:Int),jn (λ_(e:Int)y=>(bif decide (y<=e)||decide (127<y)then .inr (.inr 11)else .inl y:Int⊕(Unit⊕Int))) (λ_=>.inl ()) k l e=bif kR e l then .inl ()else .inr 11
 | [],_,_=>rfl
 |y::r,k,e=>by
  simp only[jn,kR]
  cases(decide (y<=e)||decide (127<y))with
  |true=>rfl
  |false=>simp only[cond_false,E7,Tg];exact sw r (k+1) y
theorem Mo(a b:Nat):((bif (decide (14<(a:Int)))then(some true)else(some (decide (18<(b:Int))))):Option Bool)=some (decide (14<a)||decide (18<b)):=by
 have e1:decide (14<(a:Int))=decide (14<a):=F5 14 a
 have e2:decide (18<(b:Int))=decide (18<b):=F5 18 b
 rw[e1,e2]
 cases decide (14<a)<;>rfl
theorem VH{α:Type}(l:List α):decide ((l.length:Int)=0)=decide (l.length=0):=by
 by_cases h:l.length=0
 ·simp[h]
 ·have: ¬(l.length:Int)=0:=by omega
  simp[h,this]
theorem f70_eq(a:bK):f70 a=some (instS a):=by
 unfold f70 instS
 rw[Mo,VH]
 simp only[cH]
 cases hm:(decide (14<a.cj.length)||decide (18<a.bN.length))with
 |true=>rfl
 |false=>
  simp only[EH,decide_eq_false_iff_not]at hm
  have hs:bT a.bN:=by simp only[bT];omega
  have hc:bT a.cj:=by simp only[bT];omega
  simp only[cond_false]
  cases decide (a.cj.length=0)with
  |true=>rfl
  |false=>
   simp only[cond_false]
   rw[iW (λ(e:Int)i=>(e,i)) (λ_(e:Int)y=>(bif decide (y<=e)||decide (127<y)then .inr (.inr 11)else .inl y:Int⊕(Unit⊕Int))) (λ_=>.inl ()) a.bN (λ_ _=>True) 0 (gT hs) trivial]
   ·rw[sw]
    simp only[cH]
    cases kR 0 a.bN with
    |false=>rfl
    |true=>
     simp only[cond_true,vp]
     rw[dP a.cj (zN a.bN) (λ_ c=>gC a.bN c) hc]
     ·simp only[cH,jK]
      cases a.cj.find? (zN a.bN)<;>rfl
     ·intro i c TK
      simp only[cJ TK,cond_true,b9 TK,cH,Pc,zN]
      cases hb:(decide (c.dz<0)||decide ((a.bN.length:Int)<c.dz))with
      |true=>
       have:gC a.bN c=13:=by unfold gC;rw[hb];rfl
       rw[this];rfl
      |false=>
       have mT:=hb
       simp only[EH,decide_eq_false_iff_not]at hb
       simp only[cond_false,f135_eq a c (by omega) (by omega),cH,Pc]
       cases wC:(decide (c.bW<0)||(decide (127<c.bW)||decide (127<zM a.bN c)))with
       |true=>
        have:gC a.bN c=10:=by unfold gC;rw[mT,wC];rfl
        rw[this];rfl
       |false=>
        have:gC a.bN c=0:=by unfold gC;rw[mT,wC];rfl
        rw[this];rfl
     ·simp
   ·intro i e y hy _
    refine⟨?_,λ_ _=>trivial⟩
    simp only[cJ hy,cond_true,b9 hy,cH,Pc,dB hs hy]
    cases(decide (y<=e)||decide (127<y))<;>rfl
   ·intro e _;simp
theorem instS_ok{a:bK}(h:instS a=0):a.cj.length<=14/\a.bN.length<=18/\0<a.cj.length/\kR 0 a.bN=true/\ ∀c∈a.cj,gC a.bN c=0:=by
 unfold instS at h
 cases hm:(decide (14<a.cj.length)||decide (18<a.bN.length))with
 |true=>rw[hm]at h;cases h
 |false=>
  rw[hm]at h
  simp only[EH,decide_eq_false_iff_not]at hm
  simp only[cond_false]at h
  cases h0:decide (a.cj.length=0)with
  |true=>rw[h0]at h;cases h
  |false=>
   rw[h0]at h
   simp only[cond_false]at h
   cases ia:kR 0 a.bN with
   |false=>rw[ia]at h;cases h
   |true=>
    rw[ia]at h
    simp only[cond_true]at h
    simp only[decide_eq_false_iff_not]at h0
    refine⟨by omega,by omega,by omega,rfl,λc hc=>?_⟩
    cases hf:a.cj.find? (zN a.bN)with
    |some d=>
     rw[hf]at h
     have:=List.find?_some hf
     simp only[zN,decide_eq_true_eq]at this
     exact absurd h this
    |none=>
     have:=Ya.1 hf c hc
     simpa[zN]using this
theorem jL{s:List Int}{c:cK}(h:gC s c=0):0<=c.dz/\c.dz<=(s.length:Int)/\0<=c.bW/\c.bW<=127/\zM s c<=127:=by
 unfold gC at h
 cases hb:(decide (c.dz<0)||decide ((s.length:Int)<c.dz))with
 |true=>rw[hb]at h;cases h
 |false=>
  rw[hb]at h
  cases wC:(decide (c.bW<0)||(decide (127<c.bW)||decide (127<zM s c)))with
  |true=>rw[wC]at h;cases h
  |false=>
   simp only[EH,decide_eq_false_iff_not]at hb wC
   omega
def jb(s:List Int)(c:cK)(k:Nat):Int:=if k=0 then c.bW else wr (c.bW+(s[k-1]?).getD 0)
def kA(s:List Int)(p:Int)(i:Nat)(c:cK)(n:Nat):List bn:=((List.range n).filter λk=>decide (jb s c k=p)).map λ(k:Nat)=>(⟨((i+1:Nat):Int),(k:Int)⟩:bn)
def fe(s:List Int)(p:Int):Nat->List cK->List bn
 |_,[]=>[]
 |i,c::r=>kA s p i c (c.dz.toNat+1)++fe s p (i+1) r
def eD(a:bK)(p:Int):List bn×Int:=
 if instS a=0 then(bif decide (p<0)||decide (127<p)then([],10)else(fe a.bN p 0 a.cj,0))else([],instS a)
theorem AG(s:List Int)(p:Int)(i:Nat)(c:cK)(n:Nat):kA s p i c (n+1)=kA s p i c n++(bif decide (jb s c n=p)then [⟨((i+1:Nat):Int),(n:Int)⟩]else []):=by
 unfold kA
 rw[List.range_succ,EL,CE]
 cases h:decide (jb s c n=p)<;>simp[h]
theorem tW(s:List Int)(p:Int)(i:Nat)(c:cK)(n:Nat):(kA s p i c n).length<=n:=by
 unfold kA
 rw[mA]
 exact vS (sM _ _) (by simp)
theorem f71_eq(a:bK)(c:cK)(k:Nat)(h:(k:Int)<=c.dz)(h1:c.dz<=(a.bN.length:Int))(h2:a.bN.length<=18):f71 a c (k:Int)=some (jb a.bN c k):=by
 unfold f71 jb
 by_cases h0:k=0
 ·subst h0;rfl
 ·have hd:decide ((k:Int)=0)=false:=by simp;omega
  have hw:wr ((k:Int)-1)=((k-1:Nat):Int):=by rw[su (by omega) (by omega)];omega
  have hg:a.bN[k-1]? =some a.bN[k-1]:=dC (by omega)
  rw[hd,cond_false,hw,b9 hg,if_neg h0,hg];rfl
theorem vJ(s:List Int)(p:Int): ∀(l:List cK)(i:Nat)(a:List bn),jn (λi a(c:cK)=>(.inl (a++kA s p i c (c.dz.toNat+1)):List bn⊕List bn)) (λa=>a) i l a=a++fe s p i l
 | [],_,_=>by simp[jn,fe]
 |c::r,i,a=>by simp only[jn,vJ s p r,fe,CT]
theorem f124_eq(a:bK)(p:Int):f124 a p=some (eD a p):=by
 unfold f124 eD
 rw[f70_eq]
 simp only[cH,Pc]
 by_cases hi:instS a=0
 ·obtain⟨i1,i2,i3,i4,i5⟩:=instS_ok hi
  have hd:decide (instS a≠0)=false:=by simpa using hi
  have s7:bT a.cj:=by simp only[bT];omega
  rw[hd,cond_false,if_pos hi]
  cases(decide (p<0)||decide (127<p))with
  |true=>rfl
  |false=>
   simp only[cond_false]
   rw[iW (λ(x:List bn)i=>(x,i)) (λi x(c:cK)=>(.inl (x++kA a.bN p i c (c.dz.toNat+1)):List bn⊕List bn)) (λx=>x) a.cj (λi x=>x.length<=19*i) [] (gT s7) (by simp)]
   ·rw[vJ];simp
   ·intro i x c hc hx
    have rX:=(fM.1 hc).1
    obtain⟨k1,k2,k3,k4,k5⟩:=jL (i5 c (gx hc))
    constructor
    ·simp only[cJ hc,cond_true,b9 hc,cH,dB s7 hc]
     rw[iS (λk=>(x++kA a.bN p i c k,(k:Int))) (c.dz.toNat+1) (by omega) (by simp[kA]) (r:=x++kA a.bN p i c (c.dz.toNat+1))]
     ·rfl
     ·intro k hk
      have ep:decide ((k:Int)<=c.dz)=true:=by simp;omega
      have hl:=tW a.bN p i c k
      have hm:(x++kA a.bN p i c k).length+1<=bJ:=by rw[kc];unfold bJ;omega
      have hw:wr ((k:Int)+1)=((k+1:Nat):Int):=gP (by omega)
      simp only[ep,cond_true,f71_eq a c k (by omega) k2 i2,cH,hw,cr,if_pos hm,AG]
      cases decide (jb a.bN c k=p)with
      |true=>simp
      |false=>simp
     ·have ep:decide (((c.dz.toNat+1:Nat):Int)<=c.dz)=false:=by simp;omega
      simp only[ep,cond_false]
    ·intro x' he
     cases he
     have hl:=tW a.bN p i c (c.dz.toNat+1)
     rw[kc]
     omega
   ·intro x _;simp
 ·have hd:decide (instS a≠0)=true:=by simpa using hi
  rw[hd,if_neg hi];rfl
def sx(l:List (List bV))(a:bK):Int:=if jA l=0 then instS a else jA l
theorem f38_eq(l:List (List bV))(a:bK)(hl:bT l):f38 l a=some (sx l a):=by
 unfold f38 sx
 rw[f28_eq l hl,f70_eq]
 simp only[cH]
 by_cases h:jA l=0<;>simp[h]
theorem DT{l:List (List bV)}{a:bK}(h:sx l a=0):jA l=0/\instS a=0:=by
 unfold sx at h
 split at h
 ·rename_i h1;exact⟨h1,h⟩
 ·rename_i h1;exact absurd h h1
theorem Pd(a:bK)(c:cK)(h1:c.dz<=(a.bN.length:Int))(h2:a.bN.length<=18):
  ((bif (decide (0<c.dz))then((ix a.bN (wr (c.dz-1))).bind λy=>some (wr (c.bW+y)))else(some c.bW)):Option Int)=some (sv a.bN c):=by
 unfold sv
 by_cases h:0<c.dz
 ·have hw:wr (c.dz-1)=(((c.dz-1).toNat:Nat):Int):=by rw[su (by omega) (by omega)];omega
  have hl:(c.dz-1).toNat<a.bN.length:=by omega
  have hg:a.bN[(c.dz-1).toNat]? =some a.bN[(c.dz-1).toNat]:=dC hl
  have hd:decide (0<c.dz)=true:=by simpa using h
  simp only[hd,cond_true,hw,b9 hg,hg,cH,Bc]
 ·have hd:decide (0<c.dz)=false:=by simpa using h
  simp only[hd,cond_false]
theorem f15_eq(a:bK):f15 a=some (instS a):=by
 unfold f15 instS
 rw[Mo,VH]
 simp only[cH]
 cases hm:(decide (14<a.cj.length)||decide (18<a.bN.length))with
 |true=>rfl
 |false=>
  simp only[EH,decide_eq_false_iff_not]at hm
  have hs:bT a.bN:=by simp only[bT];omega
  have hc:bT a.cj:=by simp only[bT];omega
  simp only[cond_false]
  cases decide (a.cj.length=0)with
  |true=>rfl
  |false=>
   simp only[cond_false]
   rw[iW (λ(e:Int)i=>(e,i)) (λ_(e:Int)y=>(bif decide (y<=e)||decide (127<y)then .inr (.inr 11)else .inl y:Int⊕(Unit⊕Int))) (λ_=>.inl ()) a.bN (λ_ _=>True) 0 (gT hs) trivial]
   ·rw[sw]
    simp only[cH]
    cases kR 0 a.bN with
    |false=>rfl
    |true=>
     simp only[cond_true,vp]
     rw[dP a.cj (zN a.bN) (λ_ c=>gC a.bN c) hc]
     ·simp only[cH,jK]
      cases a.cj.find? (zN a.bN)<;>rfl
     ·intro i c TK
      simp only[cJ TK,cond_true,b9 TK,cH,Pc,zN]
      cases hb:(decide (c.dz<0)||decide ((a.bN.length:Int)<c.dz))with
      |true=>
       have:gC a.bN c=13:=by unfold gC;rw[hb];rfl
       rw[this];rfl
      |false=>
       have mT:=hb
       simp only[EH,decide_eq_false_iff_not]at hb
       simp only[cond_false]
       have O5:gC a.bN c=bif decide (c.bW<0)||(decide (127<c.bW)||decide (127<zM a.bN c))then 10 else 0:=by unfold gC;rw[mT];rfl
       rw[O5]
       cases h1:decide (c.bW<0)with
       |true=>rfl
       |false=>
        cases h2:decide (127<c.bW)with
        |true=>rfl
        |false=>
         simp only[Uh,cond_false,GG,Pd a c (by omega) (by omega),cH]
         have ht:((bif c.ja then(some (wr (sv a.bN c+12)))else(some (sv a.bN c))):Option Int)=some (zM a.bN c):=by unfold zM;cases c.ja<;>rfl
         rw[ht]
         simp only[cH]
         cases decide (127<zM a.bN c)<;>rfl
     ·simp
   ·intro i e y hy _
    refine⟨?_,λ_ _=>trivial⟩
    simp only[cJ hy,cond_true,b9 hy,cH,Pc,dB hs hy]
    cases(decide (y<=e)||decide (127<y))<;>rfl
   ·intro e _;simp
theorem f83_eq(a:bK)(c:cK)(i k:Nat)(hi:a.cj[i]? =some c)(VI:i<14)(h:(k:Int)<=c.dz)(h1:c.dz<=(a.bN.length:Int))(h2:a.bN.length<=18):
  f83 a ⟨((i+1:Nat):Int),(k:Int)⟩=some (jb a.bN c k):=by
 unfold f83 jb
 have hw:wr (((i+1:Nat):Int)-1)=(i:Int):=by rw[su (by omega) (by omega)];omega
 simp only[hw,b9 hi,cH]
 by_cases h0:k=0
 ·subst h0;rfl
 ·have hd:decide (0<(k:Int))=true:=by simp;omega
  have hw:wr ((k:Int)-1)=((k-1:Nat):Int):=by rw[su (by omega) (by omega)];omega
  have hg:a.bN[k-1]? =some a.bN[k-1]:=dC (by omega)
  rw[hd,cond_true,hw,b9 hg,if_neg h0,hg];rfl
theorem tX(s:List Int)(p:Int)(c:cK): ∀(l:List cK)(i:Nat),fe s p i (l++[c])=fe s p i l++kA s p (i+l.length) c (c.dz.toNat+1)
 | [],i=>by simp[fe]
 |d::r,i=>by
  simp only[vT,fe,tX s p c r,CT,oc]
  congr 3
  omega
theorem qd(s:List Int)(p:Int): ∀(l:List cK)(i:Nat),(∀c∈l,c.dz.toNat<=18)->(fe s p i l).length<=19*l.length
 | [],i,_=>by simp[fe]
 |c::r,i,h=>by
  have h1:=qd s p r (i+1) λd hd=>h d (Iv _ hd)
  have h2:=tW s p i c (c.dz.toNat+1)
  have h3:=h c (by simp)
  simp only[fe,kc,oc]
  omega
theorem f35_eq(a:bK)(p:Int):f35 a p=some (eD a p):=by
 unfold f35 eD
 rw[f15_eq]
 simp only[cH,Pc]
 by_cases hi:instS a=0
 ·obtain⟨i1,i2,i3,i4,i5⟩:=instS_ok hi
  have rI: ∀c∈a.cj,c.dz.toNat<=18:=λc hc=>by
   have:=jL (i5 c hc)
   omega
  have hd:decide (instS a≠0)=false:=by simpa using hi
  rw[hd,cond_false,if_pos hi]
  cases(decide (p<0)||decide (127<p))with
  |true=>rfl
  |false=>
   simp only[cond_false]
   rw[iS (λi=>(fe a.bN p 0 (a.cj.take i),((i+1:Nat):Int))) a.cj.length (by omega) (by simp[fe]) (r:=fe a.bN p 0 a.cj)]
   ·rfl
   ·intro i rX
    obtain⟨c,hc⟩: ∃c,a.cj[i]? =some c:=⟨_,dC rX⟩
    obtain⟨k1,k2,k3,k4,k5⟩:=jL (i5 c (gx hc))
    have ep:decide (((i+1:Nat):Int)<=(a.cj.length:Int))=true:=by simp;omega
    have Us:wr (((i+1:Nat):Int)-1)=(i:Int):=by rw[su (by omega) (by omega)];omega
    have C8:wr (((i+1:Nat):Int)+1)=((i+1+1:Nat):Int):=gP (by omega)
    have hlx:(fe a.bN p 0 (a.cj.take i)).length<=19*i:=by
     have:=qd a.bN p (a.cj.take i) 0 λd hd=>rI d (w8 hd)
     rw[CS]at this
     omega
    have NF:(a.cj.take i).length=i:=by rw[CS];omega
    simp only[ep,cond_true,Us,b9 hc,cH,C8]
    rw[iS (λk=>(fe a.bN p 0 (a.cj.take i)++kA a.bN p i c k,(k:Int))) (c.dz.toNat+1) (by omega) (by simp[kA]) (r:=fe a.bN p 0 (a.cj.take (i+1)))]
    ·rfl
    ·intro k hk
     have ep:decide ((k:Int)<=c.dz)=true:=by simp;omega
     have hl:=tW a.bN p i c k
     have hm:(fe a.bN p 0 (a.cj.take i)++kA a.bN p i c k).length+1<=bJ:=by rw[kc];unfold bJ;omega
     have hw:wr ((k:Int)+1)=((k+1:Nat):Int):=gP (by omega)
     simp only[ep,cond_true,f83_eq a c i k hc (by omega) (by omega) k2 i2,cH,hw,cr,if_pos hm,AG]
     cases decide (jb a.bN c k=p)with
     |true=>simp
     |false=>simp
    ·have ep:decide (((c.dz.toNat+1:Nat):Int)<=c.dz)=false:=by simp;omega
     simp only[ep,cond_false,cN hc,tX,NF,Ba]
   ·have ep:decide (((a.cj.length+1:Nat):Int)<=(a.cj.length:Int))=false:=by simp;omega
    simp only[ep,cond_false,Bb]
 ·have hd:decide (instS a≠0)=true:=by simpa using hi
  rw[hd,if_neg hi];rfl
theorem qe{l:List (List bV)}: ∀(n:Nat),l.length<=n->(∀p∈l,p.length<=400)->l.flatten.length<=400*n:=by
 induction l with
 |nil=>intro n _ _;simp
 |cons p l ih=>
  intro n hn h
  cases n with
  |zero=>simp at hn
  |succ n=>
   have h1:=h p (by simp)
   have h2:=ih n (by simpa using hn) λq hq=>h q (Iv _ hq)
   simp only[List.flatten_cons,kc];omega
theorem uX{l:List (List bV)}{k:Nat}{p:List bV}(h:l[k]? =some p):(l.take (k+1)).flatten=(l.take k).flatten++p:=by
 rw[cN h,Yb];simp
theorem gJ(l:List (List bV))(k:Nat):(l.take k).flatten.length<=l.flatten.length:=by
 conv=>rhs;rw[<-PJ k l,Yb,kc]
 omega
theorem f87_eq(l:List (List bV))(h6:l.length<=6)(h4: ∀p∈l,p.length<=400):f87 l=some l.flatten:=by
 have hs:bT l:=by simp only[bT];omega
 have pB:=qe 6 h6 h4
 unfold f87
 rw[iS (λk=>(((l.take k).flatten.length:Int),(k:Int))) l.length (by omega) (by simp) (r:=(l.flatten.length:Int))]
 ·have CB:f150 (l.flatten.length:Int)=some []:=by unfold f150;rw[if_pos (by omega)]
  rw[cH,CB,cH]
  rw[iS (λk=>((l.take k).flatten,(k:Int))) l.length (by omega) (by simp) (r:=l.flatten)]
  ·rfl
  ·intro k hk
   have hg:l[k]? =some (l[k]'hk):=dC hk
   generalize l[k]'hk=p at hg
   have hf:=uX hg
   have ht:=gJ l (k+1)
   rw[hf,kc]at ht
   simp only[cJ hg,cond_true,b9 hg,cH,dB hs hg,hf]
   by_cases he:p=[]
   ·subst he;simp
   ·have hm:(l.take k).flatten.length+p.length<=bJ:=by unfold bJ;omega
    rw[show p.isEmpty=false from by simpa using he]
    simp only[cond_false,cr,if_pos hm,cH]
  ·simp
 ·intro k hk
  have hg:l[k]? =some (l[k]'hk):=dC hk
  generalize l[k]'hk=p at hg
  have hf:=uX hg
  have ht:=gJ l (k+1)
  rw[hf,kc]at ht
  have hw:wr (((l.take k).flatten.length:Int)+(p.length:Int))=(((l.take k).flatten.length+p.length:Nat):Int):=by rw[su (by omega) (by omega)];omega
  have Sn:decide ((((l.take k).flatten.length+p.length:Nat):Int)<0)=false:=decide_eq_false (by omega)
  simp only[cJ hg,cond_true,b9 hg,cH,hw,Sn,cond_false,dB hs hg,hf,kc]
 ·simp
def fU(l:List bV)(t:Int):Bool:=l.any λx=>decide (x.bX<=t)&&decide (t<x.dr)
def eL(all:List bV)(t:bV):List Int:=bif fU all t.dr then [t.bX]else [t.bX,t.dr]
theorem f88_eq(p:List bV)(t:bV)(hs:bT p):f88 p t=some (fU p t.dr):=by
 have h:f151 p t=some (gu (λx=>decide (x.bX<=t.dr)&&decide (t.dr<x.dr)) p):=by
  unfold f151
  rw[dP p (λx=>decide (x.bX<=t.dr)&&decide (t.dr<x.dr)) (λi _=>(i:Int)) hs]
  ·simp only[cH,fi,gu]
   cases p.findIdx? _<;>simp
  ·intro i y hy
   simp only[cJ hy,cond_true,b9 hy,cH,f89]
   cases decide (y.bX<=t.dr)<;>cases decide (t.dr<y.dr)<;>rfl
  ·simp
 unfold f88
 rw[h]
 simp only[cH,fT]
 rfl
theorem DU(all:List bV)(t:bV):(eL all t).length<=2:=by unfold eL;cases fU all t.dr<;>simp
theorem nO(all:List bV): ∀(l:List bV),(l.flatMap (eL all)).length<=2*l.length
 | []=>by simp
 |t::l=>by
  have:=nO all l
  have:=DU all t
  simp only[E5,kc,oc];omega
theorem f41_eq(l:List (List bV))(h6:l.length<=6)(h4: ∀p∈l,p.length<=400):f41 l=some ((l.flatten.flatMap (eL l.flatten)).foldl oM [0]):=by
 have pB:=qe 6 h6 h4
 unfold f41
 rw[f87_eq l h6 h4]
 generalize l.flatten=all at pB |-
 have hs:bT all:=by simp only[bT];omega
 simp only[cH]
 rw[iS (λk=>((0:Int)::(all.take k).flatMap (eL all),(k:Int))) all.length (by omega) (by simp) (r:=0::all.flatMap (eL all))]
 ·have hl:=nO all all
  have e1:f90 (0::all.flatMap (eL all))=some (jX (0::all.flatMap (eL all))):=by
   unfold f90;rw[if_pos (by simp only[oc];omega)]
  have IL:=nP (0::all.flatMap (eL all))
  have e2:(jX (0::all.flatMap (eL all))).take (0::all.flatMap (eL all)).length=jX (0::all.flatMap (eL all)):=rP (by omega)
  have e3:f91 (jX (0::all.flatMap (eL all)))=some (Go.Lib.compact (jX (0::all.flatMap (eL all)))):=by
   unfold f91;rw[if_pos ⟨by rw[IL];simp,by rw[IL];simp only[oc];omega⟩]
  simp only[cH,e1,cr,if_pos IL,e3,Pe]
 ·intro k hk
  have hg:all[k]? =some (all[k]'hk):=dC hk
  generalize all[k]'hk=t at hg
  have hl:=nO all (all.take k)
  have Xx:(all.take k).length<=k:=by simp;omega
  have m1:((0:Int)::(all.take k).flatMap (eL all)).length+1<=bJ:=by simp only[oc];unfold bJ;omega
  have m2:(((0:Int)::(all.take k).flatMap (eL all))++[t.bX]).length+1<=bJ:=by simp only[kc,oc,JQ];unfold bJ;omega
  simp only[cJ hg,cond_true,b9 hg,cH,cr,if_pos m1,f88_eq all t hs,if_pos m2,dB hs hg,cN hg,WQ,E5,Ug,wx,eL]
  cases fU all t.dr<;>simp
 ·simp
theorem DV{α:Type}(p:α->Bool)(l:List α):(match l.find? p with|some _=>true|none=>false)=l.any p:=by
 induction l with
 |nil=>rfl
 |cons x l ih=>
  rw[List.find?_cons,Ue]
  cases p x with
  |true=>rfl
  |false=>simpa using ih
theorem f106_eq(l:List (List bV))(t:Int)(hl:bT l)(hp: ∀p∈l,bT p):f106 l t=some (!(fU l.flatten t)):=by
 unfold f106
 rw[dP (τ:=Bool) l (λp=>fU p t) (λ_ _=>false) hl (by
  intro i y hy
  have Br:=hp y (gx hy)
  simp only[cJ hy,cond_true]
  rw[dP (τ:=Int⊕(Unit⊕Bool)) y (λx=>decide (x.bX<=t)&&decide (t<x.dr)) (λ_ _=>.inr (.inr false)) Br (by
   intro j x hx
   simp only[b9 hy,cH,cJ hx,cond_true,b9 hx]
   cases decide (x.bX<=t)<;>cases decide (t<x.dr)<;>rfl) (by simp[b9 hy])]
  rw[jK]
  have h:=DV (λx:bV=>decide (x.bX<=t)&&decide (t<x.dr)) y
  unfold fU
  rw[<-h]
  cases y.find? (λx:bV=>decide (x.bX<=t)&&decide (t<x.dr))<;>rfl) (by simp)]
 rw[jK]
 have h:=DV (λp=>fU p t) l
 have h2:fU l.flatten t=l.any λp=>fU p t:=by unfold fU;rw[List.any_flatten]
 rw[h2,<-h]
 cases l.find? (λp=>fU p t)<;>rfl
theorem AH(n:Int): ∀{l:List Int},qf l->l=l.filter (λx=>decide (x<n))++l.filter λx=>!decide (x<n)
 | [],_=>rfl
 |x::l,h=>by
  obtain⟨h1,h2⟩:=CG.1 h
  by_cases hx:x<n
  ·rw[Yc (by simpa using hx),Yd (by simpa using hx),vT,<-AH n h2]
  ·have he:l.filter (λx=>decide (x<n))=[]:=WR.2 λy hy=>by
    have:=h1 y hy
    simp;omega
   rw[Yd (by simpa using hx),Yc (by simpa using hx),he,qY]
   congr 1
   exact(List.filter_eq_self.2 λy hy=>by have:=h1 y hy;simp;omega).symm
def AJ(l:List Int)(n:Int):Int->Option (Int⊕Int):=λ(wk:Int)=>((bif (decide (0<wk))then((ix l (wr (wk-1))).bind λy2=>some (decide (n<=y2)))else(some false)):Option Bool).bind λ(VJ:Bool)=>bif VJ then(some (.inl (wr (wk-1))))else(some (.inr wk))
theorem AK(A B:List Int)(n:Int)(hA: ∀x∈A,x<n)(hB: ∀x∈B,n<=x)(hs:bT (A++B)): ∀(k l7:Nat),k<=B.length->k<l7->bY (AJ (A++B) n) l7 ((A.length+k:Nat):Int)=some (A.length:Int)
 |_,0,_,h=>by omega
 |0,l7+1,_,_=>by
  by_cases h0:A.length=0
  ·have hd:decide ((0:Int)<((A.length+0:Nat):Int))=false:=decide_eq_false (by omega)
   simp only[bY,AJ,hd,cond_false,cH]
   rfl
  ·simp only[bT,kc]at hs
   have hd:decide ((0:Int)<((A.length+0:Nat):Int))=true:=decide_eq_true (by omega)
   have hw:wr (((A.length+0:Nat):Int)-1)=((A.length-1:Nat):Int):=by rw[su (by omega) (by omega)];omega
   have hg:(A++B)[A.length-1]? =some (A[A.length-1]'(by omega)):=by rw[nq (by omega),dC]
   have ha:=hA _ (zo (l:=A) (n:=A.length-1) (by omega))
   have VK:decide (n<=A[A.length-1]'(by omega))=false:=decide_eq_false (by omega)
   simp only[bY,AJ,hd,cond_true,hw,b9 hg,cH,VK,cond_false]
   rfl
 |k+1,l7+1,hk,hf=>by
  have nu:=hs
  simp only[bT,kc]at nu
  have hd:decide ((0:Int)<((A.length+(k+1):Nat):Int))=true:=decide_eq_true (by omega)
  have hw:wr (((A.length+(k+1):Nat):Int)-1)=((A.length+k:Nat):Int):=by rw[su (by omega) (by omega)];omega
  have hg:(A++B)[A.length+k]? =some (B[k]'(by omega)):=by
   rw[pn (by omega),Nat.add_sub_cancel_left,dC]
  have hb:=hB _ (zo (l:=B) (n:=k) (by omega))
  have VK:decide (n<=B[k]'(by omega))=true:=decide_eq_true hb
  simp only[bY,AJ,hd,cond_true,hw,b9 hg,cH,VK]
  exact AK A B n hA hB hs k l7 (by omega) (by omega)
theorem DW(A B:List Int)(n:Int)(d:Nat)(hd:d=A.length)(Y:List Int)(hY:Y=(A++B)++[0]):
  (NM Y (d+1) (Y.length-(d+1)) ((Y.drop d).take (Y.length-d))).set d n=A++n::B:=by
 unfold NM
 subst hd
 rw[CT]at hY
 have hl:Y.length=A.length+(B.length+1):=by rw[hY];simp
 have h1:Y.drop A.length=B++[0]:=by rw[hY,List.drop_left]
 have h2:Y.take (A.length+1)=A++(B++[0]).take 1:=by rw[hY,List.take_length_add_append]
 have h3:(B++[0]).take (Y.length-A.length)=B++[0]:=rP (by simp;omega)
 have h4:min (B++[(0:Int)]).length (Y.length-(A.length+1))=B.length:=by simp;omega
 have h5:(B++[(0:Int)]).take B.length=B:=List.take_left
 have h6:Y.drop (A.length+1+B.length)=[]:=List.drop_of_length_le (by omega)
 rw[h1,h3,h4,h5,h6,h2,wx]
 obtain⟨x,hx⟩: ∃x,(B++[(0:Int)]).take 1=[x]:=by
  cases B with
  |nil=>exact⟨0,rfl⟩
  |cons b B=>exact⟨b,rfl⟩
 rw[hx,CT,List.set_append_right (h:=eu _)]
 simp
theorem f105_eq(l:List Int)(n:Int)(ha:qf l)(hs:l.length<=100000):f105 l n=some (oM l n):=by
 have zn:=AH n ha
 have Xy: ∀x∈l.filter (λx=>decide (x<n)),x<n:=λx hx=>by simpa using(mC.1 hx).2
 have ZE: ∀x∈l.filter (λx=>!decide (x<n)),n<=x:=λx hx=>by have:=(mC.1 hx).2;simp at this;exact this
 have hBa:qf (l.filter (λx=>!decide (x<n))):=ha.filter _
 have ZF:oM l n=bif l.any (λx=>decide (x=n))then l else l.filter (λx=>decide (x<n))++n::l.filter λx=>!decide (x<n):=rfl
 rw[ZF]
 generalize l.filter (λx=>decide (x<n))=A at zn Xy
 generalize l.filter (λx=>!decide (x<n))=B at zn ZE hBa
 have dt:l.length=A.length+B.length:=by rw[zn,kc]
 have zO:bT (A++B):=by simp only[bT,kc];omega
 have Mp:=AK A B n Xy ZE zO B.length cy (eu _) (by unfold cy;omega)
 unfold f105
 rw[<-zn]at Mp
 have hlc:((A.length+B.length:Nat):Int)=(l.length:Int):=by rw[dt]
 rw[hlc]at Mp
 have HM:bY (σ:=Int) (τ:=Int) (AJ l n) cy (l.length:Int)=some (A.length:Int):=Mp
 unfold AJ at HM
 rw[HM,cH]
 cases hB:B with
 |nil=>
  subst hB
  have hd:decide ((A.length:Int)<(l.length:Int))=false:=decide_eq_false (by simp at dt;omega)
  have F6:l.any (λx=>decide (x=n))=false:=by
   rw[zn,wx]
   exact Ny.2 λx hx=>by have:=Xy x hx;simp;omega
  rw[F6,hd]
  simp only[cond_false,cH]
  have m1:l.length+1<=bJ:=by unfold bJ;omega
  have hw:wr ((A.length:Int)+1)=((A.length+1:Nat):Int):=gP (by omega)
  have zB:(l++[(0:Int)]).length=A.length+([]:List Int).length+1:=by rw[kc,dt];rfl
  simp only[hw,nv,cr,if_pos m1]
  have hq:=DW A [] n A.length rfl (l++[0]) (by rw[zn])
  have Pf:=congrArg List.length hq
  rw[List.length_set]at Pf
  rw[if_pos (by omega),if_pos (by rw[zB];omega),if_pos (by omega),if_pos (by rw[zB];omega),if_pos (by rw[zB];omega),if_pos (by rw[zB];omega),if_pos (by rw[Pf,zB];simp <;>omega)]
  obtain⟨v,hv⟩: ∃v,(NM (l++[(0:Int)]) (A.length+1) ((l++[0]).length-(A.length+1)) (((l++[0]).drop A.length).take ((l++[0]).length-A.length)))[A.length]? =some v:=⟨_,dC (by rw[Pf];simp)⟩
  rw[b9 hv,cH,hq]
 |cons b B'=>
  subst hB
  have hd:decide ((A.length:Int)<(l.length:Int))=true:=decide_eq_true (by simp at dt;omega)
  have hg:l[A.length]? =some b:=by rw[zn,pn (eu _)];simp
  rw[hd,cond_true,b9 hg,cH,cH]
  by_cases he:b=n
  ·have F6:l.any (λx=>decide (x=n))=true:=w9.2 ⟨b,gx hg,by simpa using he⟩
   rw[decide_eq_true he,F6];rfl
  ·have F6:l.any (λx=>decide (x=n))=false:=by
    rw[zn]
    refine Ny.2 λx hx=>?_
    rcases la.1 hx with h|h
    ·have:=Xy x h;simp;omega
    ·have hb:=ZE b (by simp)
     rcases mB.1 h with rfl|h
     ·simpa using he
     ·have:=(CG.1 hBa).1 x h;simp;omega
   rw[F6,decide_eq_false he]
   simp only[cond_false]
   have m1:l.length+1<=bJ:=by unfold bJ;omega
   have hw:wr ((A.length:Int)+1)=((A.length+1:Nat):Int):=gP (by omega)
   have zB:(l++[(0:Int)]).length=A.length+(b::B').length+1:=by rw[kc,dt];rfl
   simp only[hw,nv,cr,if_pos m1]
   have hq:=DW A (b::B') n A.length rfl (l++[0]) (by rw[zn])
   have Pf:=congrArg List.length hq
   rw[List.length_set]at Pf
   rw[if_pos (by omega),if_pos (by rw[zB];omega),if_pos (by omega),if_pos (by rw[zB];omega),if_pos (by rw[zB];omega),if_pos (by rw[zB];omega),if_pos (by rw[Pf,zB];simp <;>omega)]
   obtain⟨v,hv⟩: ∃v,(NM (l++[(0:Int)]) (A.length+1) ((l++[0]).length-(A.length+1)) (((l++[0]).drop A.length).take ((l++[0]).length-A.length)))[A.length]? =some v:=⟨_,dC (by rw[Pf];simp)⟩
   rw[b9 hv,cH,hq]
def rp(all L:List bV):List Int:=(L.flatMap (eL all)).foldl oM [0]
theorem uY: ∀(l a:List Int),(l.foldl oM a).length<=a.length+l.length
 | [],a=>by simp
 |x::l,a=>by
  have h1:=uY l (oM a x)
  have h2:=DX (l:=a) x
  simp only[QV,oc];omega
theorem HN(all L:List bV)(hL:L.length<=2500):qf (rp all L)/\(rp all L).length<=6000:=by
 refine⟨(nQ _ [0] (by simp[qf])).1,?_⟩
 have h1:=uY (L.flatMap (eL all)) [0]
 have h2:=nO all L
 simp only[oc,JQ]at h1
 unfold rp;omega
theorem Jv(all L:List bV)(t:bV):rp all (L++[t])=(eL all t).foldl oM (rp all L):=by
 unfold rp
 rw[WQ,Ye];simp
theorem f53_eq(l:List (List bV))(h6:l.length<=6)(h4: ∀p∈l,p.length<=400):f53 l=some (rp l.flatten l.flatten):=by
 have hs:bT l:=by simp only[bT];omega
 have DS: ∀p∈l,bT p:=λp hp=>by have:=h4 p hp;simp only[bT];omega
 have pB:=qe 6 h6 h4
 have h93:=λt=>f106_eq l t hs DS
 unfold f53
 generalize iA:l.flatten=all at h93 pB |-
 rw[iS (λk=>(rp all (l.take k).flatten,(k:Int))) l.length (by omega) (by simp[rp]) (r:=rp all all)]
 ·rfl
 ·intro k hk
  have hg:l[k]? =some (l[k]'hk):=dC hk
  generalize l[k]'hk=p at hg
  have ZG:=h4 p (gx hg)
  have zn:=DS p (gx hg)
  have hf:=uX hg
  have ht:=gJ l (k+1)
  rw[hf,kc,iA]at ht
  simp only[cJ hg,cond_true]
  rw[iS (λj=>(rp all ((l.take k).flatten++p.take j),(j:Int))) p.length (by omega) (by simp) (r:=rp all ((l.take k).flatten++p))]
  ·simp only[cH,dB hs hg,hf]
  ·intro j hj
   have VM:p[j]? =some (p[j]'hj):=dC hj
   generalize p[j]'hj=t at VM
   have hlj:((l.take k).flatten++p.take j).length<=2400:=by rw[kc,CS];omega
   obtain⟨a1,a2⟩:=HN all _ (vS hlj (by omega))
   have Ov:rp all ((l.take k).flatten++p.take (j+1))=(eL all t).foldl oM (rp all ((l.take k).flatten++p.take j)):=by
    rw[cN VM,<-CT,Jv]
   rw[Ov]
   generalize rp all ((l.take k).flatten++p.take j)=acc at a1 a2 |-
   have b1:=(HO a1 t.bX).1
   have b2:=DX (l:=acc) t.bX
   simp only[b9 hg,cH,cJ VM,cond_true,b9 VM,f105_eq acc t.bX a1 (by omega),h93,dB zn VM]
   unfold eL
   cases fU all t.dr with
   |true=>simp
   |false=>simp[f105_eq (oM acc t.bX) t.dr b1 (by omega)]
  ·simp[b9 hg]
 ·simp[iA]
end Go.Proofs.YtpbahncblggodaaGreat
set_option linter.all false
namespace Go.Proofs.YtpbahncblggodaaGreat
open Go Go.Am
set_option maxRecDepth 100000
def gv:List cI:=[⟨1,true,false⟩,⟨1,false,false⟩,⟨2,true,false⟩,⟨1,false,true⟩,⟨2,false,false⟩,⟨3,true,false⟩,⟨2,false,true⟩,⟨3,false,false⟩,⟨4,true,false⟩,⟨3,false,true⟩,⟨4,false,false⟩,⟨5,true,false⟩,⟨4,false,true⟩,⟨5,false,false⟩,⟨6,true,false⟩,⟨5,false,true⟩,⟨6,false,false⟩,⟨7,true,false⟩,⟨6,false,true⟩,⟨7,false,false⟩,⟨7,false,true⟩]
def tk(s:cI):Nat:=((f93 s).getD 0).toNat
theorem f92_eq:f92=some gv:=by kernel_rfl
theorem tY:gv.length=21:=rfl
theorem js: ∀s∈gv,f93 s=some (tk s:Int)/\1<=tk s/\tk s<=768:=by
 have h:(gv.all λs=>decide (f93 s=some (tk s:Int))&&(decide (1<=tk s)&&decide (tk s<=768)))=true:=by decide
 intro s hs
 have:=py.1 h s hs
 simpa using this
structure zQ (T:List Int) (n k:Nat):Prop where
 len:T.length=n+1
 z:T[0]? =some 0
 lo: ∀m,m<=k-> ∀e,T[m]? =some e-> -1<=e/\e<=(m:Int)/\(0<m->e≠0)
 p2: ∀m,0<m->m<=k-> ∀e,T[m]? =some e->0<=e-> ∃s∈gv,tk s<=m/\T[m-tk s]? =some (e-1)
 p3: ∀m,m<=k-> ∀s∈gv,tk s<=m-> ∀e e',T[m]? =some e->T[m-tk s]? =some e'->0<=e'->0<=e/\e<=e'+1
theorem zQ.step{T:List Int}{n k:Nat}(h:zQ T n k)(hk:k<n)(hn:n<=4608): ∃r,bY (σ:=(List Int×Int)) (τ:=(List Int)) (λ((yq,Mq):(List Int×Int))=>bif (decide (Mq<(gv.length:Int)))then((((ix gv Mq).bind λy9=>(f93 y9).bind λZH=>((bif (decide (0<=(wr (((k+1:Nat):Int)-ZH))))then((ix yq (wr (((k+1:Nat):Int)-ZH))).bind λPg=>bif (decide (0<=Pg))then((ix yq ((k+1:Nat):Int)).bind λJ0=>bif (decide (J0<0))then(some true)else(some (decide ((wr (Pg+1))<J0))))else(some false))else(some false)):Option Bool).bind λ(VN:Bool)=>bif VN then((ix yq (wr (((k+1:Nat):Int)-ZH))).bind λy17=>(ix yq ((k+1:Nat):Int)).bind λZI=>some (yq.set (((k+1:Nat):Int)).toNat (wr (y17+1))))else(some yq)):Option (List Int)).bind λ(VO:(List Int))=>some (.inl (VO,(wr (Mq+1)))))else(some (.inr yq))) cy ((T.set (((k+1:Nat):Int)).toNat (-1)),0)=some r/\zQ r n (k+1):=by
 have hl:=h.len
 refine jJ (λj(s:List Int×Int)=>s.2=(j:Int)/\s.1.length=n+1/\(∀m,m≠k+1->s.1[m]? =T[m]?)/\ ∃e,s.1[k+1]? =some e/\ -1<=e/\e<=((k+1:Nat):Int)/\e≠0/\
   (0<=e-> ∃s∈gv,tk s<=k+1/\T[k+1-tk s]? =some (e-1))/\ ∀s∈gv.take j,tk s<=k+1-> ∀e',T[k+1-tk s]? =some e'->0<=e'->0<=e/\e<=e'+1) _ gv.length (by rw[tY];omega) ?_ ?_ ?_
 ·refine⟨rfl,by simp[hl],λm hm=>?_,-1,?_,by omega,by omega,by omega,λh=>by omega,by simp⟩
  ·show(T.set (((k+1:Nat):Int)).toNat (-1))[m]? =_
   rw[nv,EM (by omega)]
  ·show(T.set (((k+1:Nat):Int)).toNat (-1))[k+1]? =_
   rw[nv,WG];simp;omega
 ·rintro j ⟨q,s2⟩ hj ⟨e0,hq,sy,e,he,h1,h2,h3,h4,h5⟩
  simp only at e0 hq sy he
  subst e0
  have x1:gv[j]? =some (gv[j]'hj):=dC _
  generalize gv[j]'hj=s at x1
  have hm:=gx x1
  obtain⟨t1,t2,t3⟩:=js s hm
  have zO:bT gv:=by simp only[bT,tY];omega
  have w0:wr (((k+1:Nat):Int)-(tk s:Int))=((k+1:Nat):Int)-(tk s:Int):=jd (by omega) (by omega)
  simp only[cJ x1,cond_true,b9 x1,t1,cH,dB zO x1,w0]
  have keep:(∀e',tk s<=k+1->T[k+1-tk s]? =some e'->0<=e'->0<=e/\e<=e'+1)-> ∀s'∈gv.take (j+1),tk s'<=k+1-> ∀e',T[k+1-tk s']? =some e'->0<=e'->0<=e/\e<=e'+1:=λhs s' nu ht e' uZ h0=>by
   rw[cN x1,la]at nu
   rcases nu with nu|nu
   ·exact h5 s' nu ht e' uZ h0
   ·simp at nu;subst nu;exact hs e' ht uZ h0
  by_cases c1:tk s<=k+1
  ·have c2:(0:Int)<=((k+1:Nat):Int)-(tk s:Int):=by omega
   have eJ:k+1-tk s≠k+1:=by omega
   have y0:T[k+1-tk s]? =some (T[k+1-tk s]'(by omega)):=dC _
   generalize T[k+1-tk s]'(by omega)=y at y0
   have y1:q[k+1-tk s]? =some y:=by rw[sy _ eJ];exact y0
   have i1:ix q (((k+1:Nat):Int)-(tk s:Int))=some y:=VE (k+1-tk s) (by omega) y1
   have hy:=h.lo (k+1-tk s) (by omega) y y0
   simp only[c2,decide_true,cond_true,i1,cH]
   by_cases c3:0<=y
   ·have w1:wr (y+1)=y+1:=jd (by omega) (by omega)
    simp only[c3,decide_true,cond_true,b9 he,cH,w1]
    have wc: ∀e2,e2=y+1->(e<0\/e2<e)-> ∃s',some (Sum.inl (q.set (k+1) e2,((j+1:Nat):Int)):(List Int×Int)⊕List Int)=some (.inl s')/\s'.2=((j+1:Nat):Int)/\s'.1.length=n+1/\(∀m,m≠k+1->s'.1[m]? =T[m]?)/\ ∃e,s'.1[k+1]? =some e/\ -1<=e/\e<=((k+1:Nat):Int)/\e≠0/\
      (0<=e-> ∃s∈gv,tk s<=k+1/\T[k+1-tk s]? =some (e-1))/\ ∀s∈gv.take (j+1),tk s<=k+1-> ∀e',T[k+1-tk s]? =some e'->0<=e'->0<=e/\e<=e'+1:=λe2 PV gh=>by
     subst PV
     refine⟨_,rfl,rfl,by simpa using hq,λm hm=>?_,y+1,?_,by omega,by omega,by omega,λ_=>⟨s,hm,c1,by rw[y0];congr 1;omega⟩,λs' nu ht e' uZ h0=>?_⟩
     ·show(q.set (k+1) (y+1))[m]? =_
      rw[EM (by omega)];exact sy m hm
     ·show(q.set (k+1) (y+1))[k+1]? =_
      rw[WG];simp;omega
     ·rw[cN x1,la]at nu
      rcases nu with nu|nu
      ·have:=h5 s' nu ht e' uZ h0
       omega
      ·simp at nu;subst nu
       rw[y0]at uZ;cases uZ
       omega
    have iq:ix q (((k+1:Nat):Int)-(tk s:Int))=some y:=i1
    by_cases c4:e<0
    ·simp only[c4,decide_true,cond_true,cH,i1,b9 he,nv,w1]
     exact .inl (wc (y+1) rfl (.inl c4))
    ·by_cases c5:y+1<e
     ·simp only[c4,c5,decide_true,decide_false,cond_true,cond_false,cH,i1,b9 he,nv,w1]
      exact .inl (wc (y+1) rfl (.inr c5))
     ·simp only[c4,c5,decide_false,cond_false,cH]
      refine .inl ⟨_,rfl,rfl,hq,sy,e,he,h1,h2,h3,h4,keep λe' _ uZ _=>?_⟩
      rw[y0]at uZ;cases uZ
      omega
   ·simp only[c3,decide_false,cond_false,cH]
    refine .inl ⟨_,rfl,rfl,hq,sy,e,he,h1,h2,h3,h4,keep λe' _ uZ h0=>?_⟩
    rw[y0]at uZ;cases uZ
    exact absurd h0 c3
  ·have c2: ¬((0:Int)<=((k+1:Nat):Int)-(tk s:Int)):=by omega
   simp only[c2,decide_false,cond_false,cH]
   exact .inl ⟨_,rfl,rfl,hq,sy,e,he,h1,h2,h3,h4,keep λe' ht _ _=>absurd ht c1⟩
 ·rintro⟨q,s2⟩ ⟨e0,hq,sy,e,he,h1,h2,h3,h4,h5⟩
  simp only at e0 hq sy he
  subst e0
  simp only[kF,decide_false,cond_false]
  rw[Bb]at h5
  refine⟨_,rfl,hq,by rw[sy 0 (by omega)];exact h.z,λm hm e' uZ=>?_,λm h0 hm e' uZ hz=>?_,λm hm s hs ht e1 e2 PU PV h0=>?_⟩
  ·by_cases NL:m=k+1
   ·subst NL
    rw[he]at uZ;cases uZ
    exact⟨h1,h2,λ_=>h3⟩
   ·rw[sy m NL]at uZ
    exact h.lo m (by omega) e' uZ
  ·by_cases NL:m=k+1
   ·subst NL
    rw[he]at uZ;cases uZ
    obtain⟨s,a,b,c⟩:=h4 hz
    have:=(js s a).2.1
    exact⟨s,a,b,by rw[sy _ (by omega)];exact c⟩
   ·rw[sy m NL]at uZ
    obtain⟨s,a,b,c⟩:=h.p2 m h0 (by omega) e' uZ hz
    have:=(js s a).2.1
    exact⟨s,a,b,by rw[sy _ (by omega)];exact c⟩
  ·have:=(js s hs).2.1
   rw[sy _ (by omega)]at PV
   by_cases NL:m=k+1
   ·subst NL
    rw[he]at PU;cases PU
    exact h5 s hs ht e2 PV h0
   ·rw[sy m NL]at PU
    exact h.p3 m (by omega) s hs ht e1 e2 PU PV h0
def kB(l:List cI):Nat:=l.foldr (λs n=>tk s+n) 0
theorem Jw{a b:List cI}(h:a.Perm b):kB a=kB b:=by
 induction h with
 |nil=>rfl
 |cons x _ ih=>simp only[kB,List.foldr_cons]at *;omega
 |swap x y l=>simp only[kB,List.foldr_cons];omega
 |trans _ _ h1 h2=>omega
inductive nh (T:List Int):Nat->Nat->Prop
 |z (a:Nat):nh T 0 a
 |k {m a:Nat} {s:cI} {e:Int} (hs:s∈gv) (h1:tk s<=a) (h2:tk s<=m) (he:T[m]? =some e) (uZ:T[m-tk s]? =some (e-1)) (hr:nh T (m-tk s) (tk s)):nh T m a
theorem Mr{T:List Int}{n:Nat}(h:zQ T n n): ∀(L:List cI)(m:Nat),(∀s∈L,s∈gv)->kB L=m->m<=n-> ∃e,T[m]? =some e/\0<=e/\e<=(L.length:Int)
 | [],m,_,hm,_=>by
  simp[kB]at hm
  subst hm
  exact⟨0,h.z,by omega,by simp⟩
 |s::L,m,hL,hm,hn=>by
  have hs:=hL s (by simp)
  have hm:tk s+kB L=m:=hm
  obtain⟨e',h1,h2,h3⟩:=Mr h L (m-tk s) (λx hx=>hL x (by simp[hx])) (by omega) (by omega)
  have dt:=h.len
  have x1:T[m]? =some (T[m]'(by omega)):=dC _
  obtain⟨a,b⟩:=h.p3 m hn s hs (by omega) _ e' x1 h1 h2
  exact⟨_,x1,a,by simp;omega⟩
theorem Ms{T:List Int}{n:Nat}(h:zQ T n n): ∀(d m:Nat),m<=d->m<=n-> ∀e,T[m]? =some e->0<=e-> ∃L:List cI,(∀s∈L,s∈gv)/\kB L=m/\(L.length:Int)=e
 |d,0,_,_,e,he,h0=>by
  rw[h.z]at he;cases he
  exact⟨[],by simp,rfl,by simp⟩
 |0,m+1,hd,_,_,_,_=>by omega
 |d+1,m+1,hd,hn,e,he,h0=>by
  obtain⟨s,h1,h2,h3⟩:=h.p2 (m+1) (by omega) hn e he h0
  have hs:=(js s h1).2.1
  have eJ:=(h.lo (m+1) hn e he).2.2 (by omega)
  obtain⟨L,a,b,c⟩:=Ms h d (m+1-tk s) (by omega) (by omega) (e-1) h3 (by omega)
  refine⟨s::L,λx hx=>?_,?_,by simp;omega⟩
  ·simp at hx;rcases hx with rfl|hx
   ·exact h1
   ·exact a x hx
  ·show tk s+kB L=m+1;omega
theorem DY{T:List Int}{n:Nat}(h:zQ T n n): ∀(L:List cI)(m a:Nat)(e:Int),(∀s∈L,s∈gv/\tk s<=a)->kB L=m->m<=n->T[m]? =some e->(L.length:Int)=e->(L.Pairwise λx y=>tk y<=tk x)->nh T m a
 | [],m,a,e,_,hm,_,_,_,_=>by simp[kB]at hm;subst hm;exact .z a
 |s::L,m,a,e,hL,hm,hn,he,hl,hp=>by
  have hm:tk s+kB L=m:=hm
  obtain⟨e',h1,h2,h3⟩:=Mr h L (m-tk s) (λx hx=>(hL x (by simp[hx])).1) (by omega) (by omega)
  obtain⟨_,b⟩:=h.p3 m hn s (hL s (by simp)).1 (by omega) e e' he h1 h2
  have uZ:e'=e-1:=by simp at hl;omega
  subst uZ
  rw[CG]at hp
  exact .k (hL s (by simp)).1 (hL s (by simp)).2 (by omega) he h1 (DY h L (m-tk s) (tk s) (e-1) (λx hx=>⟨(hL x (by simp[hx])).1,hp.1 x hx⟩) (by omega) (by omega) h1 (by simp at hl;omega) hp.2)
theorem DZ{T:List Int}{n:Nat}(h:zQ T n n){e:Int}(he:T[n]? =some e)(h0:0<=e):nh T n 768:=by
 obtain⟨L,h1,h2,h3⟩:=Ms h n n (eu _) (eu _) e he h0
 have hp:=Yf L λx y=>decide (tk y<=tk x)
 refine DY h (L.mergeSort λx y=>decide (tk y<=tk x)) n 768 e (λs hs=>?_) (by rw[Jw hp];exact h2) (eu _) he (by rw[hp.length_eq];exact h3) ?_
 ·have:=h1 s (hp.mem_iff.1 hs)
  exact⟨this,(js s this).2.2⟩
 ·have:=Yg (le:=λx y=>decide (tk y<=tk x)) (λa b c h1 h2=>by simp at *;omega) (λa b=>by simp;omega) L
  exact this.imp λh=>by simpa using h
theorem f94_ex(T:List Int)(n:Nat)(hT:zQ T n n)(hn:n<=4608): ∀(fu m a:Nat)(l:List cI),m<fu->m<=n->l.length+m<=10000->
  ∃r,f94r fu (m:Int) (a:Int) gv T l=some r/\((r.1=true/\ ∃q,r.2=l++q/\kB q=m/\ ∀s∈q,s∈gv)\/(r.1=false/\r.2=l))/\(nh T m a->r.1=true)
 |0,m,a,l,h,_,_=>by omega
 |fu+1,m,a,l,hf,hm,hl=>by
  have dt:=hT.len
  unfold f94r
  by_cases h0:m=0
  ·subst h0
   simp only[decide_true,cond_true]
   exact⟨_,rfl,.inl ⟨rfl,[],by simp,rfl,by simp⟩,λ_=>rfl⟩
  ·have c0: ¬((m:Int)=0):=by omega
   simp only[c0,decide_false,cond_false]
   have key:=jJ (body:=λ((HP,Mt):(List cI×Int))=>bif (decide (Mt<(gv.length:Int)))then((((ix gv Mt).bind λy3=>(f93 y3).bind λr4=>((bif (decide ((a:Int)<r4))then(some true)else(bif (decide ((m:Int)<r4))then(some true)else((ix T (wr ((m:Int)-r4))).bind λy7=>(ix T (m:Int)).bind λy8=>some (decide (y7≠(wr (y8-1))))))):Option Bool).bind λ(VP:Bool)=>bif VP then(some (.inl HP))else(cr (HP.length+1<=bJ)<|(f94r fu (wr ((m:Int)-r4)) r4 gv T (HP++([y3]:List cI))).bind λF7=>bif F7.1 then(some (.inr (.inr (.inr (true,F7.2)))))else(cr (0<=(wr ((F7.2.length:Int)-1)))<|cr ((wr ((F7.2.length:Int)-1)).toNat<=F7.2.length)<|cr ((wr ((F7.2.length:Int)-1)).toNat<=F7.2.length)<|some (.inl (F7.2.take (wr ((F7.2.length:Int)-1)).toNat))))):Option ((List cI)⊕((List cI×Int)⊕((List cI)⊕(Bool×List cI))))).bind (Sum.elim (λ(VQ:(List cI))=>some (.inl (VQ,(wr (Mt+1))))) some))else(some (.inr (.inl HP))))
    (λj(s:List cI×Int)=>s.2=(j:Int)/\s.1=l/\ ∀s∈gv.take j,¬(tk s<=a/\tk s<=m/\ ∃e,T[m]? =some e/\T[m-tk s]? =some (e-1)/\nh T (m-tk s) (tk s)))
    (λo=>match o with
     |.inl q=>q=l/\ ∀s∈gv,¬(tk s<=a/\tk s<=m/\ ∃e,T[m]? =some e/\T[m-tk s]? =some (e-1)/\nh T (m-tk s) (tk s))
     |.inr r=>r.1=true/\ ∃q,r.2=l++q/\kB q=m/\ ∀s∈q,s∈gv) gv.length (s0:=(l,0)) (by rw[tY];omega) ⟨rfl,rfl,by simp⟩ ?_ ?_
   ·obtain⟨o,k1,k2⟩:=key
    simp only[k1,cH]
    cases o with
    |inl q=>
     refine⟨_,rfl,.inr ⟨rfl,k2.1⟩,λhc=>?_⟩
     cases hc with
     |z=>omega
     |k hs h1 h2 he uZ hr=>exact absurd ⟨h1,h2,_,he,uZ,hr⟩ (k2.2 _ hs)
    |inr r=>exact⟨r,rfl,.inl k2,λ_=>k2.1⟩
   ·rintro j ⟨q,s2⟩ hj ⟨e0,e1,rh⟩
    simp only at e0 e1
    subst e0;subst e1
    have x1:gv[j]? =some (gv[j]'hj):=dC _
    generalize gv[j]'hj=s at x1
    have hs:=gx x1
    obtain⟨t1,t2,t3⟩:=js s hs
    have zO:bT gv:=by simp only[bT,tY];omega
    simp only[cJ x1,cond_true,b9 x1,t1,cH,dB zO x1]
    have skip:(¬(tk s<=a/\tk s<=m/\ ∃e,T[m]? =some e/\T[m-tk s]? =some (e-1)/\nh T (m-tk s) (tk s)))-> ∀s'∈gv.take (j+1),¬(tk s'<=a/\tk s'<=m/\ ∃e,T[m]? =some e/\T[m-tk s']? =some (e-1)/\nh T (m-tk s') (tk s')):=λhq s' nu=>by
     rw[cN x1,la]at nu
     rcases nu with nu|nu
     ·exact rh s' nu
     ·simp at nu;subst nu;exact hq
    by_cases c1:(a:Int)<(tk s:Int)
    ·simp only[c1,decide_true,cond_true,cH,vp]
     exact .inl ⟨_,rfl,rfl,rfl,skip λh=>by omega⟩
    by_cases c2:(m:Int)<(tk s:Int)
    ·simp only[c1,c2,decide_true,decide_false,cond_true,cond_false,cH,vp]
     exact .inl ⟨_,rfl,rfl,rfl,skip λh=>by omega⟩
    have w0:wr ((m:Int)-(tk s:Int))=((m-tk s:Nat):Int):=by rw[jd (by omega) (by omega)];omega
    have y1:T[m-tk s]? =some (T[m-tk s]'(by omega)):=dC _
    have y2:T[m]? =some (T[m]'(by omega)):=dC _
    generalize T[m-tk s]'(by omega)=y at y1
    generalize T[m]'(by omega)=z at y2
    have hz:=hT.lo m hm z y2
    have w1:wr (z-1)=z-1:=jd (by omega) (by omega)
    simp only[c1,c2,decide_false,cond_false,w0,b9 y1,b9 y2,cH,w1]
    by_cases c3:y=z-1
    ·have m1:q.length+1<=bJ:=by unfold bJ;omega
     subst c3
     obtain⟨r,k1,k2,k3⟩:=f94_ex T n hT hn fu (m-tk s) (tk s) (q++[s]) (by omega) (by omega) (by simp;omega)
     simp only[ne_eq,not_true_eq_false,decide_false,cond_false,de m1,k1,cH]
     rcases k2 with⟨r1,q',r2,r3,r4⟩|⟨r1,r2⟩
     ·simp only[r1,cond_true,cH,Sum.elim_inr]
      refine .inr ⟨_,rfl,rfl,s::q',by rw[r2];simp,?_,λx hx=>?_⟩
      ·show tk s+kB q'=m;omega
      ·simp at hx;rcases hx with rfl|hx
       ·exact hs
       ·exact r4 x hx
     ·have w2:wr ((r.2.length:Int)-1)=(q.length:Int):=by rw[r2];simp;rw[jd (by omega) (by omega)]
      have n1:(0:Int)<=(q.length:Int):=by omega
      have n2:q.length<=r.2.length:=by rw[r2];simp
      simp only[r1,cond_false,w2,de n1,nv,de n2,cH,vp]
      refine .inl ⟨_,rfl,rfl,by rw[r2];simp,skip λh=>?_⟩
      obtain⟨_,_,e,g1,g2,g3⟩:=h
      have:=k3 g3
      rw[r1]at this;cases this
    ·simp only[ne_eq,c3,not_false_eq_true,decide_true,cond_true,cH,vp]
     refine .inl ⟨_,rfl,rfl,rfl,skip λh=>?_⟩
     obtain⟨_,_,e,g1,g2,g3⟩:=h
     rw[y2]at g1;rw[y1]at g2
     cases g1;cases g2
     exact c3 rfl
   ·rintro⟨q,s2⟩ ⟨e0,e1,rh⟩
    simp only at e0 e1
    subst e0;subst e1
    simp only[kF,decide_false,cond_false]
    exact⟨_,rfl,rfl,λs hs=>rh s (by simpa using hs)⟩
theorem f42_ex(n:Int): ∃r,f42 n=some r/\(r.2=0->0<=n/\n<=4608/\(kB r.1:Int)=n/\ ∀s∈r.1,s∈gv):=by
 unfold f42
 by_cases h1:n<0
 ·simp only[h1,decide_true,cond_true,cH]
  exact⟨_,rfl,λh=>by cases h⟩
 by_cases h2:4608<n
 ·simp only[h1,h2,decide_true,decide_false,cond_true,cond_false,cH]
  exact⟨_,rfl,λh=>by cases h⟩
 obtain⟨m,rfl⟩: ∃m:Nat,n=(m:Int):=⟨n.toNat,by omega⟩
 have w1:wr ((m:Int)+1)=((m+1:Nat):Int):=gP (by omega)
 have n1:(0:Int)<=((m+1:Nat):Int):=by omega
 have n2:((m+1:Nat):Int)<=(bJ:Int):=by unfold bJ;omega
 simp only[h1,h2,decide_false,cond_false,f92_eq,cH,w1,de n1,de n2,nv]
 refine eO (λk(s:List Int×Int)=>s.2=((k+1:Nat):Int)/\zQ s.1 m k) (λT=>zQ T m m) m (by omega) ⟨rfl,?_⟩ ?_ ?_ ?_
 ·refine⟨by simp,by simp,λk hk e he=>?_,λk hk hk2=>by omega,λk hk s hs ht=>?_⟩
  ·have:k=0:=by omega
   subst this
   simp at he
   subst he
   exact⟨by omega,by omega,λh=>by omega⟩
  ·have:=(js s hs).2.1
   omega
 ·rintro k ⟨T,s2⟩ hk ⟨e0,hT⟩
  simp only at e0 hT
  subst e0
  have c1:((k+1:Nat):Int)<=(m:Int):=by omega
  have dt:=hT.len
  have x1:T[k+1]? =some (T[k+1]'(by omega)):=dC _
  obtain⟨r,k1,k2⟩:=hT.step hk (by omega)
  simp only[c1,decide_true,cond_true,b9 x1,cH,k1]
  rw[gP (by omega)]
  exact .inl ⟨_,rfl,rfl,k2⟩
 ·rintro⟨T,s2⟩ ⟨e0,hT⟩
  simp only at e0 hT
  subst e0
  have c1: ¬(((m+1:Nat):Int)<=(m:Int)):=by omega
  simp only[c1,decide_false,cond_false]
  exact⟨_,rfl,hT⟩
 ·intro T hT
  have dt:=hT.len
  have x1:T[m]? =some (T[m]'(by omega)):=dC _
  generalize T[m]'(by omega)=e at x1
  simp only[b9 x1,cH]
  by_cases c1:e<0
  ·simp only[c1,decide_true,cond_true]
   exact⟨_,rfl,λh=>by cases h⟩
  ·obtain⟨r,k1,k2,k3⟩:=f94_ex T m hT (by omega) cy m 768 [] (by unfold cy;omega) (eu _) (by simp;omega)
   have k1:f94 (m:Int) 768 gv T []=some r:=k1
   simp only[c1,decide_false,cond_false,k1,cH]
   refine⟨_,rfl,λ_=>⟨by omega,by omega,?_,?_⟩⟩
   ·rcases k2 with⟨r1,q,r2,r3,r4⟩|⟨r1,r2⟩
    ·simp only[r2,qY,r3]
    ·have:=k3 (DZ hT x1 (by omega));rw[r1]at this;cases this
   ·rcases k2 with⟨r1,q,r2,r3,r4⟩|⟨r1,r2⟩
    ·simp only[r2,qY];exact r4
    ·have:=k3 (DZ hT x1 (by omega));rw[r1]at this;cases this
end Go.Proofs.YtpbahncblggodaaGreat
set_option linter.all false
namespace Go.Proofs.YtpbahncblggodaaGreat
open Go Go.Am
set_option maxRecDepth 100000
theorem f85_in(a lo hi:Int):f85 a lo hi=some (oL a lo hi):=f85_eq a lo hi
structure ni (h:ee):Prop where
 n1:1<=h.low.length
 n4:h.low.length<=4
 hi:h.high.length=h.low.length
 ba:h.fV.length=h.low.length
 el: ∀(i:Nat)a b,h.low[i]? =some a->h.high[i]? =some b->0<=a/\a<=b/\b<=8
 t1:1<=h.top
 t2:h.top<=18
 j1:0<=h.jump
 j2:h.jump<=18
 ws: ∀x∈[h.shift,h.lift,h.k8,h.ey,h.gw],0<=x/\x<=1000
theorem f86_ex(l:List Int)(hs:bT l): ∃b,f86 l=some b/\True:=by
 have nu:l.length<=4194304:=hs
 unfold f86
 refine eO (λk(s:Int)=>s=(l.length:Int)-1-k) (λ_=>True) l.length hs (by rw[jd (by omega) (by omega)];omega) ?_ ?_ ?_
 ·intro k s hk hi
  subst hi
  by_cases h:0<(l.length:Int)-1-k
  ·have e1:l[l.length-1-k]? =some (l[l.length-1-k]'(by omega)):=dC _
   have e2:l[l.length-2-k]? =some (l[l.length-2-k]'(by omega)):=dC _
   have w:wr ((l.length:Int)-1-k-1)=((l.length-2-k:Nat):Int):=by rw[jd (by omega) (by omega)];omega
   have i1:ix l ((l.length:Int)-1-k)=some (l[l.length-1-k]'(by omega)):=VE (l.length-1-k) (by omega) e1
   simp only[h,decide_true,cond_true,i1,w,b9 e2,cH,f149,f177]
   simp only[ne_eq,not_true_eq_false,decide_false,cond_false,cH]
   cases decide (l[l.length-1-k]'(by omega)<l[l.length-2-k]'(by omega))
   ·exact .inl ⟨_,rfl,by omega⟩
   ·exact .inr ⟨_,rfl,trivial⟩
  ·simp only[h,decide_false,cond_false]
   exact .inr ⟨_,rfl,trivial⟩
 ·intro s hi
  subst hi
  have h: ¬0<(l.length:Int)-1-(l.length:Nat):=by omega
  simp only[h,decide_false,cond_false]
  exact⟨_,rfl,trivial⟩
 ·intro r _
  cases r<;>exact⟨_,rfl,trivial⟩
theorem f39_ex(h:ee): ∃r,f39 h=some r/\(r=0->ni h):=by
 unfold f39
 simp only[f85_in]
 refine gY (P1:=λj=>j=false->oL (h.low.length:Int) 1 4=true/\h.high.length=h.low.length/\h.fV.length=h.low.length) ?_ ?_
 ·simp only[cH]
  cases h1:oL (h.low.length:Int) 1 4
  ·exact⟨_,rfl,λh=>by cases h⟩
  ·by_cases h2:h.high.length=h.low.length
   ·have e:((h.high.length:Int)≠(h.low.length:Int))=False:=by simp[h2]
    simp only[oe,cond_false,e,decide_false]
    refine⟨_,rfl,λh3=>⟨trivial,h2,?_⟩⟩
    simp at h3;omega
   ·have e:((h.high.length:Int)≠(h.low.length:Int))=True:=by simp;omega
    simp only[oe,cond_false,e,decide_true,cond_true]
    exact⟨_,rfl,λh=>by cases h⟩
 intro j hj
 cases j
 case true=>exact⟨60,rfl,λh=>by cases h⟩
 obtain⟨n1,n2,n3⟩:=hj rfl
 simp only[oL,eW,decide_eq_true_eq]at n1
 simp only[cond_false]
 refine eO (λk(s:Int)=>s=(k:Int)/\ ∀(i:Nat)a b,i<k->h.low[i]? =some a->h.high[i]? =some b->0<=a/\a<=b/\b<=8) (λo=>match o with
  |.inl _=> ∀(i:Nat)a b,h.low[i]? =some a->h.high[i]? =some b->0<=a/\a<=b/\b<=8
  |.inr z=>z≠0) h.low.length (by omega) ⟨rfl,λi a b hi=>by omega⟩ ?_ ?_ ?_
 ·rintro k s hk ⟨rfl,hi⟩
  have e1:h.low[k]? =some (h.low[k]'hk):=dC _
  have e2:h.high[k]? =some (h.high[k]'(by omega)):=dC _
  generalize h.low[k]'hk=a at e1
  generalize h.high[k]'(by omega)=b at e2
  simp only[cJ e1,cond_true,b9 e1,b9 e2,cH,dB (l:=h.low) (by simp only[bT];omega) e1]
  by_cases c1:a<0
  ·simp only[c1,decide_true,cond_true,cH]
   exact .inr ⟨_,rfl,show(60:Int)≠0 by decide⟩
  by_cases c2:b<a
  ·simp only[c1,c2,decide_true,decide_false,cond_true,cond_false,cH]
   exact .inr ⟨_,rfl,show(60:Int)≠0 by decide⟩
  by_cases c3:8<b
  ·simp only[c1,c2,c3,decide_true,decide_false,cond_true,cond_false,cH]
   exact .inr ⟨_,rfl,show(60:Int)≠0 by decide⟩
  simp only[c1,c2,c3,decide_true,decide_false,cond_true,cond_false,cH]
  refine .inl ⟨_,rfl,rfl,λi a' b' Bm ha hb=>?_⟩
  by_cases TN:i<k
  ·exact hi i a' b' TN ha hb
  ·have:i=k:=by omega
   subst this
   rw[e1]at ha;rw[e2]at hb
   cases ha;cases hb
   omega
 ·rintro s ⟨rfl,hi⟩
  simp only[kF,decide_false,cond_false]
  exact⟨_,rfl,λi a b ha hb=>hi i a b (fM.1 ha).1 ha hb⟩
 intro o ho
 cases o
 case inr=>rename_i z;exact⟨z,rfl,λh=>absurd h ho⟩
 simp only[vp]
 refine gY (P1:=λj=>j=false->1<=h.top/\h.top<=18/\0<=h.jump/\h.jump<=18) ?_ ?_
 ·refine gY (P1:=λ_=>True) (f86_ex h.low (by simp only[bT];omega)) λb1 _=>VF (λ_=>⟨_,rfl,λh=>by cases h⟩) λ_=>
   gY (P1:=λ_=>True) (f86_ex h.high (by simp only[bT];omega)) λb2 _=>VF (λ_=>⟨_,rfl,λh=>by cases h⟩) λ_=>?_
  simp only[cH]
  cases h3:oL h.top 1 18
  ·exact⟨_,rfl,λh=>by cases h⟩
  ·refine⟨_,rfl,λh4=>?_⟩
   simp only[oL,eW,decide_eq_true_eq,X9]at h3 h4
   omega
 intro j hj
 cases j
 case true=>exact⟨60,rfl,λh=>by cases h⟩
 obtain⟨t1,t2,j1,j2⟩:=hj rfl
 simp only[cond_false]
 refine eO (λk(s:Int)=>s=(k:Int)/\ ∀x∈[h.shift,h.lift,h.k8,h.ey,h.gw].take k,0<=x/\x<=1000) (λo=>match o with
  |.inl _=> ∀x∈[h.shift,h.lift,h.k8,h.ey,h.gw],0<=x/\x<=1000
  |.inr z=>z≠0) 5 (by omega) ⟨rfl,λx hx=>by simp at hx⟩ ?_ ?_ ?_
 ·rintro k s hk ⟨rfl,hi⟩
  generalize hL:[h.shift,h.lift,h.k8,h.ey,h.gw]=L at hi
  have hl:L.length=5:=by subst hL;rfl
  have e1:L[k]? =some (L[k]'(by omega)):=dC _
  generalize L[k]'(by omega)=x at e1
  have c:(k:Int)<5:=by omega
  simp only[c,decide_true,cond_true,b9 e1,cH]
  rw[gP (by omega)]
  cases h3:oL x 0 1000
  ·exact .inr ⟨_,rfl,show(60:Int)≠0 by decide⟩
  ·refine .inl ⟨_,rfl,rfl,λy hy=>?_⟩
   rw[cN e1,la]at hy
   rcases hy with hy|hy
   ·exact hi y hy
   ·simp at hy;subst hy
    simpa[oL]using h3
 ·rintro s ⟨rfl,hi⟩
  exact⟨_,rfl,hi⟩
 intro o ho
 cases o
 case inr=>rename_i z;exact⟨z,rfl,λh=>absurd h ho⟩
 exact⟨0,rfl,λ_=>⟨by omega,by omega,n2,n3,by assumption,t1,t2,j1,j2,ho⟩⟩
end Go.Proofs.YtpbahncblggodaaGreat
set_option linter.all false
namespace Go.Proofs.YtpbahncblggodaaGreat
open Go Go.Am
set_option maxRecDepth 100000
def lq(x:Int)(p:bn):Bool:=decide (p.bc=x)
theorem f185_1_eq(l:List bn)(x:Int)(hs:bT l):f185_1 l x=some (gu (lq x) l):=by
 unfold f185_1
 rw[dP l (lq x) (λi _=>(i:Int)) hs]
 ·simp only[cH,fi,gu]
  cases l.findIdx? _<;>simp
 ·intro i y hy
  simp only[cJ hy,cond_true,b9 hy,cH,f186,lq]
  cases decide (y.bc=x)<;>rfl
 ·simp
theorem f119_eq(c:bR)(x:Int)(hs:bT c.cD):f119 c x=some (gu (lq x) c.cD):=by
 unfold f119;rw[f185_1_eq _ _ hs];rfl
theorem f223_eq(l:List bn)(x:Int)(hs:bT l):f223 l x=some (l.any (lq x)):=by
 unfold f223 f190 f185
 rw[dP l (lq x) (λi _=>(i:Int)) hs]
 ·simp only[cH,fi]
  rw[<-fT]
  unfold gu
  cases l.findIdx? _<;>simp
 ·intro i y hy
  simp only[cJ hy,cond_true,b9 hy,cH,f274,lq]
  cases decide (y.bc=x)<;>rfl
 ·simp
theorem wU{α:Type}{p:α->Bool}{l:List α}:decide (gu p l<0)=!(l.any p):=by
 rw[<-fT]
 by_cases h:gu p l<0
 ·simp[h]
 ·simp[h];omega
theorem qM{α:Type}{p:α->Bool}{l:List α}(h:l.any p=true): ∃(k:Nat)(x:α),gu p l=(k:Int)/\l[k]? =some x/\p x=true:=by
 unfold gu
 cases hf:l.findIdx? p with
 |none=>
  rw[WS]at hf
  obtain⟨x,hx,hp⟩:=w9.1 h
  rw[hf x hx]at hp;cases hp
 |some k=>
  obtain⟨hk,h1,_⟩:=Ui.1 hf
  exact⟨k,_,rfl,dC hk,h1⟩
def F8(l:List Int):Prop:= ∀(i:Nat)a b,l[i]? =some a->l[i+1]? =some b->a<b
theorem f118_ex(l:List Int)(hs:bT l): ∃b,f118 l=some b/\(b=true↔F8 l):=by
 have nu:l.length<=4194304:=hs
 unfold f118
 refine eO (λk(s:Int)=>s=((k+1:Nat):Int)/\ ∀(i:Nat)a b,i<k->l[i]? =some a->l[i+1]? =some b->a<b) (λo=>match o with
  |.inl _=>F8 l
  |.inr b=>b=false/\ ¬F8 l) (l.length-1) (by omega) ⟨rfl,λi a b h=>by omega⟩ ?_ ?_ ?_
 ·rintro k s hk ⟨rfl,hi⟩
  have e1:l[k+1]? =some (l[k+1]'(by omega)):=dC _
  have e2:l[k]? =some (l[k]'(by omega)):=dC _
  have w:wr (((k+1:Nat):Int)-1)=(k:Int):=by rw[jd (by omega) (by omega)];omega
  simp only[cJ e1,cond_true,b9 e1,w,b9 e2,cH]
  rw[gP (by omega)]
  by_cases c:l[k+1]'(by omega)<=l[k]'(by omega)
  ·simp only[c,decide_true,cond_true]
   exact .inr ⟨_,rfl,rfl,λh=>by have:=h k _ _ e2 e1;omega⟩
  ·simp only[c,decide_false,cond_false]
   refine .inl ⟨_,rfl,rfl,λi a b TN ha hb=>?_⟩
   by_cases gh:i<k
   ·exact hi i a b gh ha hb
   ·have:i=k:=by omega
    subst this
    rw[e2]at ha;rw[e1]at hb
    cases ha;cases hb
    omega
 ·rintro s ⟨rfl,hi⟩
  have c: ¬(((l.length-1+1:Nat):Int)<(l.length:Int)):=by omega
  simp only[c,decide_false,cond_false]
  refine⟨_,rfl,λi a b ha hb=>hi i a b ?_ ha hb⟩
  have:=(fM.1 hb).1
  omega
 intro o ho
 cases o with
 |inl _=>exact⟨true,rfl,by simpa using ho⟩
 |inr b=>
  obtain⟨h1,h2⟩:=ho
  subst h1
  exact⟨false,rfl,by simpa using h2⟩
structure ga (c:bR):Prop where
 da: ∀(i:Nat)p q,c.cD[i]? =some p->c.cD[i+1]? =some q->p.bc<q.bc
 dc: ∀p∈c.cD,1<=p.bc/\p.bc<=14/\1<=p.ct/\p.ct<=18
 ha:F8 c.held
 oa:F8 c.db
 hd: ∀x∈c.held,c.cD.any (lq x)=true
 oo: ∀x∈c.db,1<=x/\x<=14/\c.cD.any (lq x)=false
theorem f59_ex(c:bR)(s1:bT c.cD)(s2:bT c.held)(s3:bT c.db): ∃b,f59 c=some b/\(b=true↔ga c):=by
 have s1':c.cD.length<=4194304:=s1
 have s2':c.held.length<=4194304:=s2
 have ZJ:c.db.length<=4194304:=s3
 unfold f59
 refine eO (λk(s:Int×Int)=>s=((c.cD[k-1]?.map bn.bc).getD 0*(if k=0 then 0 else 1),(k:Int))/\(∀p∈c.cD.take k,1<=p.bc/\p.bc<=14/\1<=p.ct/\p.ct<=18)/\
   ∀(i:Nat)p q,i+1<k->c.cD[i]? =some p->c.cD[i+1]? =some q->p.bc<q.bc) (λo=>match o with
  |.inl _=>(∀(i:Nat)p q,c.cD[i]? =some p->c.cD[i+1]? =some q->p.bc<q.bc)/\ ∀p∈c.cD,1<=p.bc/\p.bc<=14/\1<=p.ct/\p.ct<=18
  |.inr b=>b=false/\ ¬ga c) c.cD.length s1' ⟨by simp,λp hp=>by simp at hp,λi p q h=>by omega⟩ ?_ ?_ ?_
 ·rintro k s hk ⟨rfl,h1,h2⟩
  have e1:c.cD[k]? =some (c.cD[k]'hk):=dC _
  generalize c.cD[k]'hk=y at e1
  simp only[cJ e1,cond_true,b9 e1,cH,dB s1 e1,f85_in]
  generalize hL:(c.cD[k-1]?.map bn.bc).getD 0*(if k=0 then 0 else 1)=L
  by_cases c1:y.bc<=L
  ·simp only[c1,decide_true,cond_true,cH]
   refine .inr ⟨_,rfl,rfl,λhr=>?_⟩
   by_cases Sp:k=0
   ·subst Sp
    simp at hL
    subst hL
    have:=hr.dc y (gx e1)
    omega
   ·have e2:c.cD[k-1]? =some (c.cD[k-1]'(by omega)):=dC _
    rw[e2]at hL
    simp[Sp]at hL
    have:=hr.da (k-1) _ y e2 (by rw[Nat.sub_add_cancel (by omega)];exact e1)
    omega
  by_cases c2:14<y.bc
  ·simp only[c1,c2,decide_true,decide_false,cond_true,cond_false,cH]
   refine .inr ⟨_,rfl,rfl,λhr=>?_⟩
   have:=hr.dc y (gx e1)
   omega
  cases c3:oL y.ct 1 18
  ·simp only[c1,c2,decide_false,cond_false,cH,E7,cond_true]
   refine .inr ⟨_,rfl,rfl,λhr=>?_⟩
   have:=hr.dc y (gx e1)
   simp[oL]at c3
   omega
  ·simp only[c1,c2,decide_false,cond_false,cH,oe]
   simp only[oL,eW,decide_eq_true_eq]at c3
   have hL0:0<=L:=by
    by_cases Sp:k=0
    ·subst Sp;simp at hL;omega
    ·have e2:c.cD[k-1]? =some (c.cD[k-1]'(by omega)):=dC _
     have hm:c.cD[k-1]'(by omega)∈c.cD.take k:=by
      rw[List.mem_take_iff_getElem]
      exact⟨k-1,by omega,rfl⟩
     have:=h1 _ hm
     rw[e2]at hL
     simp[Sp]at hL
     omega
   refine .inl ⟨_,rfl,?_,λp hp=>?_,λi p q hi hp hq=>?_⟩
   ·simp only[WT,e1,gl,Bc]
    simp
   ·rw[cN e1,la]at hp
    rcases hp with hp|hp
    ·exact h1 p hp
    ·simp at hp;subst hp;omega
   ·by_cases TN:i+1<k
    ·exact h2 i p q TN hp hq
    ·have ZK:k=i+1:=by omega
     subst ZK
     rw[e1]at hq;cases hq
     simp only[WT,hp,gl,Bc]at hL
     simp at hL
     omega
 ·rintro s ⟨rfl,h1,h2⟩
  simp only[kF,decide_false,cond_false]
  refine⟨_,rfl,λi p q hp hq=>h2 i p q (fM.1 hq).1 hp hq,λp hp=>h1 p (by simpa using hp)⟩
 intro o ho
 cases o with
 |inr b=>obtain⟨rfl,h⟩:=ho;exact⟨false,rfl,by simpa using h⟩
 |inl _=>
 obtain⟨d1,d2⟩:=ho
 simp only[vp]
 refine gY (P1:=λj=>j=false↔(F8 c.held/\F8 c.db)) ?_ ?_
 ·refine gY (f118_ex c.held s2) λb1 h1=>?_
  cases b1
  ·exact⟨true,rfl,by simp at h1;simp[h1]⟩
  ·refine gY (f118_ex c.db s3) λb2 h2=>⟨!b2,rfl,?_⟩
   simp at h1
   cases b2<;>simp_all
 intro j hj
 cases j
 case true=>
  refine⟨false,rfl,?_⟩
  simp at hj
  simp
  exactλh=>hj h.ha h.oa
 obtain⟨a1,a2⟩:=hj.1 rfl
 simp only[cond_false]
 refine eO (λk(s:Int)=>s=(k:Int)/\ ∀x∈c.held.take k,c.cD.any (lq x)=true) (λo=>match o with
  |.inl _=> ∀x∈c.held,c.cD.any (lq x)=true
  |.inr b=>b=false/\ ¬ga c) c.held.length s2' ⟨rfl,λp hp=>by simp at hp⟩ ?_ ?_ ?_
 ·rintro k s hk ⟨rfl,h1⟩
  have e1:c.held[k]? =some (c.held[k]'hk):=dC _
  generalize c.held[k]'hk=y at e1
  simp only[cJ e1,cond_true,b9 e1,cH,dB s2 e1,f119_eq c _ s1,wU]
  cases c1:c.cD.any (lq y)
  ·exact .inr ⟨_,rfl,rfl,λhr=>by have:=hr.hd y (gx e1);rw[c1]at this;cases this⟩
  ·refine .inl ⟨_,rfl,rfl,λp hp=>?_⟩
   rw[cN e1,la]at hp
   rcases hp with hp|hp
   ·exact h1 p hp
   ·simp at hp;subst hp;exact c1
 ·rintro s ⟨rfl,h1⟩
  simp only[kF,decide_false,cond_false]
  exact⟨_,rfl,λp hp=>h1 p (by simpa using hp)⟩
 intro o ho
 cases o with
 |inr b=>obtain⟨rfl,h⟩:=ho;exact⟨false,rfl,by simpa using h⟩
 |inl _=>
 simp only[vp]
 refine eO (λk(s:Int)=>s=(k:Int)/\ ∀x∈c.db.take k,1<=x/\x<=14/\c.cD.any (lq x)=false) (λo=>match o with
  |.inl _=> ∀x∈c.db,1<=x/\x<=14/\c.cD.any (lq x)=false
  |.inr b=>b=false/\ ¬ga c) c.db.length ZJ ⟨rfl,λp hp=>by simp at hp⟩ ?_ ?_ ?_
 ·rintro k s hk ⟨rfl,h1⟩
  have e1:c.db[k]? =some (c.db[k]'hk):=dC _
  generalize c.db[k]'hk=y at e1
  simp only[cJ e1,cond_true,b9 e1,cH,dB s3 e1,f85_in,f119_eq c _ s1,fT]
  cases c0:oL y 1 14
  ·refine .inr ⟨_,rfl,rfl,λhr=>?_⟩
   have:=hr.oo y (gx e1)
   simp[oL]at c0
   omega
  cases c1:c.cD.any (lq y)
  ·refine .inl ⟨_,rfl,rfl,λp hp=>?_⟩
   rw[cN e1,la]at hp
   rcases hp with hp|hp
   ·exact h1 p hp
   ·simp at hp;subst hp
    simp[oL]at c0
    exact⟨c0.1,c0.2,c1⟩
  ·exact .inr ⟨_,rfl,rfl,λhr=>by have:=hr.oo y (gx e1);rw[c1]at this;exact Bool.noConfusion this.2.2⟩
 ·rintro s ⟨rfl,h1⟩
  simp only[kF,decide_false,cond_false]
  exact⟨_,rfl,λp hp=>h1 p (by simpa using hp)⟩
 intro o h3
 cases o with
 |inr b=>obtain⟨rfl,h⟩:=h3;exact⟨false,rfl,by simpa using h⟩
 |inl _=>exact⟨true,rfl,by simp;exact⟨d1,d2,a1,a2,ho,h3⟩⟩
end Go.Proofs.YtpbahncblggodaaGreat
set_option linter.all false
namespace Go.Proofs.YtpbahncblggodaaGreat
open Go Go.Am
set_option maxRecDepth 100000
theorem f187_eq(l:List Int)(x:Int)(hs:bT l):f187 l x=some (gu (λy=>decide (x=y)) l):=by
 unfold f187
 rw[dP l (λy=>decide (x=y)) (λi _=>(i:Int)) hs]
 ·simp only[cH,fi,gu]
  cases l.findIdx? _<;>simp
 ·intro i y hy
  simp only[cJ hy,cond_true,b9 hy,cH]
  cases decide (x=y)<;>rfl
 ·simp
theorem f188_eq(l:List Int)(a b:Int)(hs:bT l):f188 l a b=some (l.any λx=>decide (a<x)&&decide (x<b)):=by
 unfold f188 f243
 rw[dP l (λx=>decide (a<x)&&decide (x<b)) (λi _=>(i:Int)) hs]
 ·simp only[cH,fi]
  rw[<-fT]
  unfold gu
  cases l.findIdx? _<;>simp
 ·intro i y hy
  simp only[cJ hy,cond_true,b9 hy,cH,f189]
  cases decide (a<y)<;>cases decide (y<b)<;>rfl
 ·simp
theorem f190_1_eq(l:List bn)(a:Int)(hs:bT l):f190_1 l a=some (l.any λx=>decide (x.ct<a)):=by
 unfold f190_1 f185_2
 rw[dP l (λx:bn=>decide (x.ct<a)) (λi _=>(i:Int)) hs]
 ·simp only[cH,fi]
  rw[<-fT]
  unfold gu
  cases l.findIdx? _<;>simp
 ·intro i y hy
  simp only[cJ hy,cond_true,b9 hy,cH,f191]
  cases decide (y.ct<a)<;>rfl
 ·simp
theorem Jx{α:Type}{p:α->Bool}{l:List α}{k:Nat}{x:α}(hx:l[k]? =some x)(hp:p x=true):0<=gu p l/\gu p l<=(k:Int):=by
 have ha:l.any p=true:=w9.2 ⟨x,gx hx,hp⟩
 obtain⟨j,y,h1,h2,h3⟩:=qM ha
 rw[h1]
 refine⟨by omega,?_⟩
 by_cases hjk:j<=k
 ·omega
 ·exfalso
  unfold gu at h1
  cases hf:l.findIdx? p with
  |none=>rw[hf]at h1;simp at h1
  |some m=>
   rw[hf]at h1
   obtain⟨hm,_,h5⟩:=Ui.1 hf
   have e:m=j:=by simp only at h1;omega
   subst e
   have:=h5 k (by omega)
   have hxk:=(fM.1 hx).2
   rw[hxk]at this
   exact this hp
theorem f121_ex(h:ee)(c:bR)(fs:List Int)(hn:h.low.length<=4)(hb:h.fV.length=h.low.length)(hl:fs.length=c.cD.length)(hs:bT c.cD)(ho:bT c.db):
  ∃b,f121 h c fs=some b/\(fs.length<=1->b=true):=by
 have nu:c.cD.length<=4194304:=hs
 have hf:bT fs:=by simp only[bT];omega
 unfold f121
 refine eO (λk(s:Int)=>s=((k+1:Nat):Int)) (λo=>fs.length<=1->o=.inl ()) h.low.length (by omega) rfl ?_ ?_ ?_
 ·rintro k s hk rfl
  have c0:((k+1:Nat):Int)<=(h.low.length:Int):=by omega
  simp only[c0,decide_true,cond_true,f187_eq fs _ hf,cH,wU]
  rw[gP (by omega)]
  cases ha:fs.any (λy=>decide (((k+1:Nat):Int)=y))
  ·exact .inl ⟨_,rfl,by omega⟩
  obtain⟨j,y,h1,h2,h3⟩:=qM ha
  have h3:=of_decide_eq_true h3
  subst h3
  have hj:=(fM.1 h2).1
  simp only[h1,oe,cond_false]
  have key: ∃m:Nat,bY (σ:=(Int×Int)) (τ:=Int) (λ((Mu,ua):(Int×Int))=>bif (decide (ua<(fs.length:Int)))then((((ix fs ua).bind λy5=>bif (decide (y5=((k+1:Nat):Int)))then(some ua)else(some Mu)):Option Int).bind λ(yr:Int)=>some (.inl (yr,(wr (ua+1)))))else(some (.inr Mu))) cy ((j:Int),0)=some (m:Int)/\j<=m/\m<fs.length:=by
   have:=jJ (body:=λ((Mu,ua):(Int×Int))=>bif (decide (ua<(fs.length:Int)))then((((ix fs ua).bind λy5=>bif (decide (y5=((k+1:Nat):Int)))then(some ua)else(some Mu)):Option Int).bind λ(yr:Int)=>some (.inl (yr,(wr (ua+1)))))else(some (.inr Mu)))
    (λn(s:Int×Int)=>s.2=(n:Int)/\ ∃m:Nat,s.1=(m:Int)/\j<=m/\m<fs.length) (λr=> ∃m:Nat,r=(m:Int)/\j<=m/\m<fs.length) fs.length (s0:=((j:Int),0)) hf ⟨rfl,j,rfl,eu _,hj⟩ ?_ ?_
   ·obtain⟨r,e1,m,e2,e3⟩:=this
    subst e2
    exact⟨m,e1,e3⟩
   ·rintro n ⟨s1,s2⟩ hn ⟨e1,m,e2,e3,e4⟩
    simp only at e1 e2
    subst e1;subst e2
    have g1:fs[n]? =some (fs[n]'hn):=dC _
    generalize fs[n]'hn=z at g1
    simp only[cJ g1,cond_true,b9 g1,cH,dB hf g1]
    by_cases hz:z=((k+1:Nat):Int)
    ·simp only[hz,decide_true,cond_true,cH]
     refine .inl ⟨_,rfl,rfl,n,rfl,?_,hn⟩
     have:=Jx (p:=λy=>decide (((k+1:Nat):Int)=y)) g1 (by simp[hz])
     rw[h1]at this
     omega
    ·simp only[hz,decide_false,cond_false,cH]
     exact .inl ⟨_,rfl,rfl,m,rfl,e3,e4⟩
   ·rintro⟨s1,s2⟩ ⟨e1,m,e2,e3,e4⟩
    simp only at e1 e2
    subst e1;subst e2
    simp only[kF,decide_false,cond_false]
    exact⟨_,rfl,m,rfl,e3,e4⟩
  obtain⟨m,k1,k2,k3⟩:=key
  simp only[k1,cH]
  by_cases hjm:j=m
  ·subst hjm
   simp only[decide_true,cond_true]
   exact .inl ⟨_,rfl,by omega⟩
  have c2: ¬((j:Int)=(m:Int)):=by omega
  have Xz: ¬fs.length<=1:=by omega
  have b1:h.fV[k]? =some (h.fV[k]'(by omega)):=dC _
  have w:wr (((k+1:Nat):Int)-1)=(k:Int):=by rw[jd (by omega) (by omega)];omega
  have d1:c.cD[j]? =some (c.cD[j]'(by omega)):=dC _
  have d2:c.cD[m]? =some (c.cD[m]'(by omega)):=dC _
  simp only[c2,decide_false,cond_false,w,b9 b1,b9 d1,b9 d2,cH,f188_eq _ _ _ ho]
  have n1:(0:Int)<=(j:Int):=by omega
  have n2:(0:Int)<=(m:Int):=by omega
  have n3:((j:Int)).toNat<=((m:Int)).toNat:=by omega
  have n4:((m:Int)).toNat<=c.cD.length:=by omega
  have zO:bT ((c.cD.take ((m:Int)).toNat).drop ((j:Int)).toNat):=by simp only[bT,Tf,CS];omega
  simp only[de n1,de n2,de n3,de n4,f190_1_eq _ _ zO,cH]
  generalize h.fV[k]'(by omega)=x1
  generalize decide ((c.cD[j]'(by omega)).ct≠(c.cD[m]'(by omega)).ct)=x2
  generalize(c.db.any λx=>_)=x3
  generalize(List.any _ λx:bn=>_)=x4
  cases x1
  ·exact .inr ⟨_,rfl,λh=>absurd h Xz⟩
  cases x2
  ·cases x3
   ·cases x4
    ·exact .inl ⟨_,rfl,by omega⟩
    ·exact .inr ⟨_,rfl,λh=>absurd h Xz⟩
   ·exact .inr ⟨_,rfl,λh=>absurd h Xz⟩
  ·exact .inr ⟨_,rfl,λh=>absurd h Xz⟩
 ·rintro s rfl
  have c0: ¬(((h.low.length+1:Nat):Int)<=(h.low.length:Int)):=by omega
  simp only[c0,decide_false,cond_false]
  exact⟨_,rfl,λ_=>rfl⟩
 ·intro o ho
  cases o with
  |inl _=>exact⟨true,rfl,λ_=>rfl⟩
  |inr b=>exact⟨b,rfl,λh=>by have:=ho h;cases this⟩
theorem f121_one: @f121_1= @f121:=rfl
def u0(h:ee)(pos f ct:Int):Bool:=match h.low[(f-1).toNat]?,h.high[(f-1).toNat]? with
 |some a,some b=>oL ct (wr (pos+a)) (wr (pos+b))
 |_,_=>false
theorem f122_eq(h:ee)(hh:ni h)(pos f ct:Int)(h1:1<=f)(h2:f<=h.low.length):f122 h pos f ct=some (u0 h pos f ct):=by
 have hi:=hh.hi
 have h4:=hh.n4
 have e:wr (f-1)=(((f-1).toNat:Nat):Int):=by rw[jd (by omega) (by omega)];omega
 have e1:h.low[(f-1).toNat]? =some (h.low[(f-1).toNat]'(by omega)):=dC _
 have e2:h.high[(f-1).toNat]? =some (h.high[(f-1).toNat]'(by omega)):=dC _
 unfold f122 u0
 simp only[e,b9 e1,b9 e2,e1,e2,cH,f85_in]
def nj(p q:bn)(f g:Int):Bool:=if p.ct<q.ct then decide (f<g)else if q.ct<p.ct then decide (g<f)else if p.bc<q.bc then decide (g<=f)else decide (f<=g)
theorem f123_eq(p q:bn)(f g:Int):f123 p q f g=some (nj p q f g):=by
 unfold f123 nj
 by_cases h1:p.ct<q.ct
 ·simp[h1]
 by_cases h2:q.ct<p.ct
 ·simp[h1,h2]
 by_cases h3:p.bc<q.bc
 ·simp[h1,h2,h3]
 ·simp[h1,h2,h3]
structure D0 (h:ee) (c:bR) (pos:Int) (fs:List Int):Prop where
 len:fs.length<=c.cD.length
 fit: ∀(i:Nat)f p,fs[i]? =some f->c.cD[i]? =some p->1<=f/\f<=h.low.length/\u0 h pos f p.ct=true
 agr: ∀(i j:Nat)f g p q,i<j->fs[i]? =some f->fs[j]? =some g->c.cD[i]? =some p->c.cD[j]? =some q->nj p q f g=true
structure Fit (h:ee) (c:bR) (g:cp):Prop where
 p1:1<=g.pos
 p2:g.pos<=h.top
 len:g.dg.length=c.cD.length
 fit:D0 h c g.pos g.dg
 sp:f121 h c g.dg=some true
end Go.Proofs.YtpbahncblggodaaGreat
set_option linter.all false
namespace Go.Proofs.YtpbahncblggodaaGreat
open Go Go.Am
set_option maxRecDepth 100000
theorem f45_1_eq(l:List Int)(h:bT l):f45_1 l=some l:=by
 unfold f45_1
 by_cases c:l=[]
 ·subst c;simp
 ·have:l.length<=bJ:=by simp only[bT]at h;unfold bJ;omega
  rw[show l.isEmpty=false from by simpa using c];simp[de this]
theorem Mw:4194304<cy:=by unfold cy;omega
theorem D0.snoc{h:ee}{c:bR}{pos:Int}{fs:List Int}{f:Int}{p:bn}(hf:D0 h c pos fs)(hp:c.cD[fs.length]? =some p)(h1:1<=f)(h2:f<=h.low.length)(h3:u0 h pos f p.ct=true)
  (h4: ∀(i:Nat)g q,fs[i]? =some g->c.cD[i]? =some q->nj q p g f=true):D0 h c pos (fs++[f]):=by
 have gh:=(fM.1 hp).1
 refine⟨by simp;omega,λi g q hg hq=>?_,λi j g1 g2 q1 q2 pz e1 e2 e3 e4=>?_⟩
 ·by_cases hi:i<fs.length
  ·rw[nq hi]at hg
   exact hf.fit i g q hg hq
  ·have hl:=(fM.1 hg).1
   simp at hl
   have:i=fs.length:=by omega
   subst this
   rw[hp]at hq;cases hq
   simp at hg;subst hg
   exact⟨h1,h2,h3⟩
 ·have hl:=(fM.1 e2).1
  simp at hl
  have hi:i<fs.length:=by omega
  rw[nq hi]at e1
  by_cases hj:j<fs.length
  ·rw[nq hj]at e2
   exact hf.agr i j g1 g2 q1 q2 pz e1 e2 e3 e4
  ·have:j=fs.length:=by omega
   subst this
   rw[hp]at e4;cases e4
   simp at e2;subst e2
   exact h4 i g1 q1 e1 e3
theorem f120_ex(h:ee)(hh:ni h)(c:bR)(pos:Int)(Sq:1<=pos)(hp2:pos<=h.top)(hd:c.cD.length<=14)(ho:bT c.db): ∀(fu:Nat)(fs:List Int)(l:List cp),D0 h c pos fs->c.cD.length-fs.length<fu->
  l.length<=201->(fs.length=c.cD.length->l.length<=200)->
  ∃r,f120r fu pos fs c h l=some r/\(r.1=fs/\ ∃m,r.2=l++m/\(l++m).length<=201/\ ∀g∈m,g.pos=pos/\Fit h c g)
 |0,fs,l,hf,hu,hl,CO=>by omega
 |fu+1,fs,l,hf,hu,hl,CO=>by
  have dt:=hf.len
  have hsd:bT c.cD:=by simp only[bT];omega
  have ZL:bT fs:=by simp only[bT];omega
  have hn4:=hh.n4
  unfold f120r
  by_cases he:fs.length=c.cD.length
  ·have e:decide ((fs.length:Int)=(c.cD.length:Int))=true:=by simp[he]
   simp only[e,cond_true]
   obtain⟨b,hb,_⟩:=f121_ex h c fs hn4 hh.ba he hsd ho
   have CO:=CO he
   have m1:l.length+1<=bJ:=by unfold bJ;omega
   simp only[hb,cH,f45_1_eq fs ZL,de m1]
   cases b
   ·exact⟨_,rfl,rfl,[],by simp,by simpa using hl,λg hg=>by simp at hg⟩
   ·refine⟨_,rfl,rfl,[⟨pos,fs⟩],rfl,by simp;omega,λg hg=>?_⟩
    simp at hg
    subst hg
    exact⟨rfl,Sq,hp2,he,hf,hb⟩
  ·have e:decide ((fs.length:Int)=(c.cD.length:Int))=false:=by simp;omega
   simp only[e,cond_false]
   have gh:fs.length<c.cD.length:=by omega
   have p0:c.cD[fs.length]? =some (c.cD[fs.length]'gh):=dC _
   generalize c.cD[fs.length]'gh=p at p0
   refine eO (λk(s:List Int×List cp×Int)=>s.1=fs/\s.2.2=((k+1:Nat):Int)/\ ∃m,s.2.1=l++m/\(l++m).length<=201/\ ∀g∈m,g.pos=pos/\Fit h c g)
    (λr=>r.1=fs/\ ∃m,r.2=l++m/\(l++m).length<=201/\ ∀g∈m,g.pos=pos/\Fit h c g) h.low.length (by omega) ⟨rfl,rfl,[],by simp,by simpa using hl,λg hg=>by simp at hg⟩ ?_ ?_ ?_
   ·rintro k ⟨s1,s2,s3⟩ hk ⟨e1,e2,m,e3,CK,F9⟩
    simp only at e1 e2 e3
    subst e1;subst e2;subst e3
    have c0:((k+1:Nat):Int)<=(h.low.length:Int):=by omega
    simp only[c0,decide_true,cond_true,cH]
    by_cases c1:((l++m).length:Int)<=200
    ·simp only[c1,decide_true,cond_true,b9 p0,cH,f122_eq h hh pos _ p.ct (show 1<=((k+1:Nat):Int)by omega) c0]
     rw[gP (by omega)]
     cases hr:u0 h pos ((k+1:Nat):Int) p.ct
     ·exact .inl ⟨_,rfl,rfl,rfl,m,rfl,CK,F9⟩
     simp only[oe,cond_false]
     have key: ∃o,bY (σ:=Int) (τ:=(Unit⊕(List Int×List cp))) (λ(HQ:Int)=>bif (decide (HQ<(s1.length:Int)))then((ix s1 HQ).bind λPg=>(ix c.cD HQ).bind λTP=>(f123 TP p Pg ((k+1:Nat):Int)).bind λr14=>bif (!r14)then(some (.inr (.inr (s1,l++m))))else(some (.inl (wr (HQ+1)))))else(some (.inr (.inl ())))) cy 0=some o/\
       (match o with
        |.inl _=> ∀(i:Nat)g q,s1[i]? =some g->c.cD[i]? =some q->nj q p g ((k+1:Nat):Int)=true
        |.inr x=>x=(s1,l++m)):=by
      refine jJ (λn(s:Int)=>s=(n:Int)/\ ∀(i:Nat)g q,i<n->s1[i]? =some g->c.cD[i]? =some q->nj q p g ((k+1:Nat):Int)=true) _ s1.length ZL ⟨rfl,λi g q h=>by omega⟩ ?_ ?_
      ·rintro n s hn ⟨rfl,hi⟩
       have g1:s1[n]? =some (s1[n]'hn):=dC _
       have g2:c.cD[n]? =some (c.cD[n]'(by omega)):=dC _
       simp only[cJ g1,cond_true,b9 g1,b9 g2,cH,dB ZL g1,f123_eq]
       cases ha:nj (c.cD[n]'(by omega)) p (s1[n]'hn) ((k+1:Nat):Int)
       ·exact .inr ⟨_,rfl,rfl⟩
       ·refine .inl ⟨_,rfl,rfl,λi g q eP hg hq=>?_⟩
        by_cases gh:i<n
        ·exact hi i g q gh hg hq
        ·have:i=n:=by omega
         subst this
         rw[g1]at hg;rw[g2]at hq
         cases hg;cases hq
         exact ha
      ·rintro s ⟨rfl,hi⟩
       simp only[kF,decide_false,cond_false]
       exact⟨_,rfl,λi g q hg hq=>hi i g q (fM.1 hg).1 hg hq⟩
     obtain⟨o,k1,k2⟩:=key
     simp only[k1,cH]
     cases o with
     |inr x=>
      simp only at k2
      subst k2
      exact .inl ⟨_,rfl,rfl,rfl,m,rfl,CK,F9⟩
     |inl _=>
      simp only at k2
      have m1:s1.length+1<=bJ:=by unfold bJ;omega
      have hpf:=hf.snoc p0 (f:=((k+1:Nat):Int)) (by omega) c0 hr k2
      obtain⟨r,r1,r2,m',r3,r4,r5⟩:=f120_ex h hh c pos Sq hp2 hd ho fu (s1++[((k+1:Nat):Int)]) (l++m) hpf (by simp;omega) CK (λ_=>by omega)
      have n1:(0:Int)<=(s1.length:Int):=by omega
      have n2:((s1.length:Int)).toNat<=r.1.length:=by rw[r2];simp
      simp only[vp,de m1,r1,cH,de n1,de n2]
      refine .inl ⟨_,rfl,?_,rfl,m++m',by rw[r3];simp,by simpa[CT]using r4,λg hg=>?_⟩
      ·rw[r2];simp
      ·rcases la.1 hg with hg|hg
       ·exact F9 g hg
       ·exact r5 g hg
    ·simp only[c1,decide_false,cond_false]
     exact .inr ⟨_,rfl,rfl,m,rfl,CK,F9⟩
   ·rintro⟨s1,s2,s3⟩ ⟨e1,e2,m,e3,CK,F9⟩
    simp only at e1 e2 e3
    subst e1;subst e2;subst e3
    have c0: ¬(((h.low.length+1:Nat):Int)<=(h.low.length:Int)):=by omega
    simp only[c0,decide_false,cond_false,cH]
    exact⟨_,rfl,rfl,m,rfl,CK,F9⟩
   ·rintro⟨s1,s2⟩ ⟨e1,m,e2,CK,F9⟩
    exact⟨_,rfl,e1,m,e2,CK,F9⟩
theorem yu(h:ee)(c:bR)(pos:Int):D0 h c pos []:=⟨by simp,λi f p h=>by simp at h,λi j f g p q _ h=>by simp at h⟩
theorem f60_ex(h:ee)(hh:ni h)(c:bR)(hd:c.cD.length<=14)(ho:bT c.db): ∃l,f60 h c=some l/\(l.length<=201/\ ∀g∈l,Fit h c g):=by
 have t2:=hh.t2
 have t1:=hh.t1
 unfold f60
 refine eO (λk(s:List cp×List Int×Int)=>s.2.1=[]/\s.2.2=((k+1:Nat):Int)/\s.1.length<=201/\(c.cD.length=0->s.1.length<=k)/\ ∀g∈s.1,Fit h c g) (λl=>l.length<=201/\ ∀g∈l,Fit h c g) h.top.toNat (by omega) ⟨rfl,rfl,by simp,λ_=>by simp,λg hg=>by simp at hg⟩ ?_ ?_ ?_
 ·rintro k ⟨s1,s2,s3⟩ hk ⟨e1,e2,h1,h2,h3⟩
  simp only at e1 e2 h1 h2 h3
  subst e1;subst e2
  have c0:((k+1:Nat):Int)<=h.top:=by omega
  have hb:=Mw
  by_cases hz:c.cD.length=0
  ·have e0:c.cD=[]:=JO hz
   obtain⟨b,hb,uF⟩:=f121_ex h c [] hh.n4 hh.ba (by simp[e0]) (by simp[bT,e0]) ho
   have uF:=uF (by simp)
   subst uF
   have m1:s1.length+1<=bJ:=by unfold bJ;omega
   have hF:cy=(cy-1)+1:=by omega
   have FC:(([]:List Int).length:Int)=(c.cD.length:Int):=by simp[e0]
   simp only[c0,decide_true,cond_true,f120]
   rw[hF]
   simp only[f120r,FC,decide_true,cond_true,hb,cH,f45_1_eq [] (by simp[bT]),de m1]
   rw[gP (by omega)]
   refine .inl ⟨_,rfl,rfl,rfl,by simp;have:=h2 hz;omega,λ_=>by simp;exact h2 hz,λg hg=>?_⟩
   rcases la.1 hg with hg|hg
   ·exact h3 g hg
   ·simp at hg;subst hg
    exact⟨by show(1:Int)<=((k+1:Nat):Int);omega,c0,by simp[e0],yu h c _,hb⟩
  ·obtain⟨r,r1,r2,m,r3,r4,r5⟩:=f120_ex h hh c ((k+1:Nat):Int) (by omega) c0 hd ho cy [] s1 (yu h c _) (by omega) h1 (λh=>by simp at h;omega)
   simp only[c0,decide_true,cond_true,f120,r1,cH]
   rw[gP (by omega)]
   refine .inl ⟨_,rfl,r2,rfl,by rw[r3];exact r4,λh=>absurd h hz,λg hg=>?_⟩
   rw[r3]at hg
   rcases la.1 hg with hg|hg
   ·exact h3 g hg
   ·exact(r5 g hg).2
 ·rintro⟨s1,s2,s3⟩ ⟨e1,e2,h1,h2,h3⟩
  simp only at e1 e2 h1 h2 h3
  subst e1;subst e2
  have c0: ¬(((h.top.toNat+1:Nat):Int)<=h.top):=by omega
  simp only[c0,decide_false,cond_false]
  exact⟨_,rfl,h1,h3⟩
 ·intro l hl
  exact⟨l,rfl,hl⟩
end Go.Proofs.YtpbahncblggodaaGreat
set_option linter.all false
namespace Go.Proofs.YtpbahncblggodaaGreat
open Go Go.Am
set_option maxRecDepth 100000
theorem D3(p q:bn):gK p q=decide (p=q):=by
 unfold gK
 cases p;cases q
 simp[Bool.decide_and]
theorem f277_ex(h:ee)(hh:ni h)(c:bR)(g:cp)(hd:bT c.cD)(hf:bT g.dg)(ho:bT c.db): ∃b,f277 h c g=some b/\(b=true↔Fit h c g):=by
 have uy:c.cD.length<=4194304:=hd
 have sR:g.dg.length<=4194304:=hf
 unfold f277
 refine gY (P1:=λj=>j=false↔(1<=g.pos/\g.pos<=h.top/\g.dg.length=c.cD.length)) ?_ ?_
 ·simp only[f85_in,cH]
  cases h1:oL g.pos 1 h.top
  ·refine⟨true,rfl,?_⟩
   simp[oL]at h1 |-
   intro h2 h3;omega
  ·refine⟨_,rfl,?_⟩
   simp[oL]at h1 |-
   constructor
   ·intro h2;exact⟨h1.1,h1.2,by omega⟩
   ·intro h2;omega
 intro j hj
 cases j
 case true=>exact⟨false,rfl,by simp at hj;simp;exactλhF=>hj hF.p1 hF.p2 hF.len⟩
 obtain⟨p1,p2,hl⟩:=hj.1 rfl
 simp only[cond_false]
 refine eO (λk(s:Int)=>s=(k:Int)/\D0 h c g.pos (g.dg.take k)) (λo=>match o with
  |.inl _=>D0 h c g.pos g.dg
  |.inr b=>b=false/\ ¬Fit h c g) g.dg.length sR ⟨rfl,by simpa using yu h c g.pos⟩ ?_ ?_ ?_
 ·rintro k s hk ⟨rfl,hp⟩
  have e1:g.dg[k]? =some (g.dg[k]'hk):=dC _
  have e2:c.cD[k]? =some (c.cD[k]'(by omega)):=dC _
  generalize g.dg[k]'hk=f at e1
  generalize c.cD[k]'(by omega)=p at e2
  have Xx:(g.dg.take k).length=k:=by simp;omega
  simp only[cJ e1,cond_true,b9 e1,cH,dB hf e1,f85_in]
  cases c1:oL f 1 (h.low.length:Int)
  ·simp only[E7,cond_true,cH]
   refine .inr ⟨_,rfl,rfl,λhF=>?_⟩
   have:=hF.fit.fit k f p e1 e2
   simp[oL]at c1
   omega
  simp only[oL,eW,decide_eq_true_eq]at c1
  simp only[oe,cond_false,b9 e2,cH,f122_eq h hh g.pos f p.ct c1.1 c1.2]
  cases c2:u0 h g.pos f p.ct
  ·simp only[E7,cond_true]
   exact .inr ⟨_,rfl,rfl,λhF=>by have:=(hF.fit.fit k f p e1 e2).2.2;rw[c2]at this;cases this⟩
  simp only[oe,cond_false]
  have key: ∃o,bY (σ:=Int) (τ:=(Unit⊕(Int⊕(Unit⊕Bool)))) (λ(HR:Int)=>bif (decide (HR<(k:Int)))then((ix c.cD HR).bind λPg=>(ix g.dg HR).bind λJ0=>(f123 Pg p J0 f).bind λZM=>bif (!ZM)then(some (.inr (.inr (.inr (.inr false)))))else(some (.inl (wr (HR+1)))))else(some (.inr (.inl ())))) cy 0=some o/\
    (match o with
     |.inl _=> ∀(i:Nat)g' q,(g.dg.take k)[i]? =some g'->c.cD[i]? =some q->nj q p g' f=true
     |.inr x=>x=.inr (.inr false)/\ ¬Fit h c g):=by
   refine jJ (λn(s:Int)=>s=(n:Int)/\ ∀(i:Nat)g' q,i<n->(g.dg.take k)[i]? =some g'->c.cD[i]? =some q->nj q p g' f=true) _ k (by omega) ⟨rfl,λi g q h=>by omega⟩ ?_ ?_
   ·rintro n s hn ⟨rfl,hi⟩
    have g1:g.dg[n]? =some (g.dg[n]'(by omega)):=dC _
    have g2:c.cD[n]? =some (c.cD[n]'(by omega)):=dC _
    have c3:(n:Int)<(k:Int):=by omega
    simp only[c3,decide_true,cond_true,b9 g1,b9 g2,cH,dB hf g1,f123_eq]
    cases ha:nj (c.cD[n]'(by omega)) p (g.dg[n]'(by omega)) f
    ·exact .inr ⟨_,rfl,rfl,λhF=>by have:=hF.fit.agr n k _ f _ p hn g1 e1 g2 e2;rw[ha]at this;cases this⟩
    ·refine .inl ⟨_,rfl,rfl,λi g' q eP hg hq=>?_⟩
     by_cases gh:i<n
     ·exact hi i g' q gh hg hq
     ·have:i=n:=by omega
      subst this
      rw[List.getElem?_take_of_lt hn,g1]at hg
      rw[g2]at hq
      cases hg;cases hq
      exact ha
   ·rintro s ⟨rfl,hi⟩
    simp only[kF,decide_false,cond_false]
    exact⟨_,rfl,λi g' q hg hq=>hi i g' q (by have:=(fM.1 hg).1;omega) hg hq⟩
  obtain⟨o,k1,k2⟩:=key
  simp only[k1,cH]
  cases o with
  |inr x=>
   obtain⟨k2,k3⟩:=k2
   subst k2
   exact .inr ⟨_,rfl,rfl,k3⟩
  |inl _=>
   refine .inl ⟨_,rfl,rfl,?_⟩
   rw[cN e1]
   exact hp.snoc (by rw[Xx];exact e2) c1.1 c1.2 c2 k2
 ·rintro s ⟨rfl,hp⟩
  simp only[kF,decide_false,cond_false]
  exact⟨_,rfl,by simpa using hp⟩
 intro o ho2
 cases o with
 |inr b=>obtain⟨rfl,h⟩:=ho2;exact⟨false,rfl,by simpa using h⟩
 |inl _=>
  obtain⟨b,hb,_⟩:=f121_ex h c g.dg hh.n4 hh.ba hl hd ho
  simp only[vp,f121_one,hb,cH]
  refine⟨b,rfl,λe=>by subst e;exact⟨p1,p2,hl,ho2,hb⟩,λhF=>?_⟩
  have:=hF.sp
  rw[hb]at this
  exact Option.some.inj this
def lW(a b:bR):Prop:= ∀x∈b.held,∃(i j:Nat)(p:bn),gu (lq x) a.cD=(i:Int)/\gu (lq x) b.cD=(j:Int)/\a.cD[i]? =some p/\b.cD[j]? =some p
theorem f246_ex(a b:bR)(ha:bT a.cD)(hb:bT b.cD)(hh:bT b.held)(hr: ∀x∈b.held,b.cD.any (lq x)=true): ∃r,f246 a b=some r/\(r=true↔lW a b):=by
 have hh':b.held.length<=4194304:=hh
 unfold f246
 refine eO (λk(s:Int)=>s=(k:Int)/\ ∀x∈b.held.take k,∃(i j:Nat)(p:bn),gu (lq x) a.cD=(i:Int)/\gu (lq x) b.cD=(j:Int)/\a.cD[i]? =some p/\b.cD[j]? =some p) (λo=>match o with
  |.inl _=>lW a b
  |.inr r=>r=false/\ ¬lW a b) b.held.length hh' ⟨rfl,λx hx=>by simp at hx⟩ ?_ ?_ ?_
 ·rintro k s hk ⟨rfl,hi⟩
  have e1:b.held[k]? =some (b.held[k]'hk):=dC _
  generalize b.held[k]'hk=x at e1
  have hm:=gx e1
  simp only[cJ e1,cond_true,b9 e1,cH,dB hh e1,f119_eq a x ha,f119_eq b x hb,wU]
  obtain⟨j,q,j1,j2,j3⟩:=qM (hr x hm)
  cases c1:a.cD.any (lq x)
  ·simp only[E7,cond_true,cH]
   refine .inr ⟨_,rfl,rfl,λhF=>?_⟩
   obtain⟨i,j',p,h1,_⟩:=hF x hm
   have:=fT (p:=lq x) (l:=a.cD)
   rw[c1,h1]at this
   simp at this
  ·obtain⟨i,p,i1,i2,i3⟩:=qM c1
   simp only[oe,cond_false,i1,j1,b9 i2,b9 j2,cH,D3]
   by_cases ZN:p=q
   ·subst ZN
    simp only[decide_true,oe,cond_false]
    refine .inl ⟨_,rfl,rfl,λy hy=>?_⟩
    rw[cN e1,la]at hy
    rcases hy with hy|hy
    ·exact hi y hy
    ·simp at hy;subst hy
     exact⟨i,j,p,i1,j1,i2,j2⟩
   ·simp only[ZN,decide_false,E7,cond_true]
    refine .inr ⟨_,rfl,rfl,λhF=>?_⟩
    obtain⟨i',j',p',h1,h2,h3,h4⟩:=hF x hm
    rw[i1]at h1;rw[j1]at h2
    have e1:i=i':=by omega
    have e2:j=j':=by omega
    subst e1;subst e2
    rw[i2]at h3;rw[j2]at h4
    cases h3;cases h4
    exact ZN rfl
 ·rintro s ⟨rfl,hi⟩
  simp only[kF,decide_false,cond_false]
  exact⟨_,rfl,λx hx=>hi x (by simpa using hx)⟩
 intro o ho
 cases o with
 |inr r=>obtain⟨rfl,h⟩:=ho;exact⟨false,rfl,by simpa using h⟩
 |inl _=>exact⟨true,rfl,by simpa using ho⟩
structure jM (c:bR):Prop where
 d:bT c.cD
 h:bT c.held
 o:bT c.db
theorem f196_ex(a b:bR)(ha:jM a)(hb:jM b): ∃r,f196 [a,b]=some r/\(r=0↔ga a/\ga b/\lW a b):=by
 unfold f196
 have c0: ¬(400<(([a,b]:List bR).length:Int)):=by simp
 simp only[c0,decide_false,cond_false]
 refine eO (λk(s:Int)=>s=(k:Int)/\(0<k->ga a)/\(1<k->ga b/\lW a b)) (λo=>match o with
  |.inl _=>ga a/\ga b/\lW a b
  |.inr r=>r=1/\ ¬(ga a/\ga b/\lW a b)) 2 (by omega) ⟨rfl,λh=>by omega,λh=>by omega⟩ ?_ ?_ ?_
 ·rintro k s hk ⟨rfl,h1,h2⟩
  obtain⟨ra,ea,pa⟩:=f59_ex a ha.d ha.h ha.o
  obtain⟨rb,eb,pb⟩:=f59_ex b hb.d hb.h hb.o
  have kX:k=0\/k=1:=by omega
  rcases kX with rfl|rfl
  ·have g0:ix ([a,b]:List bR) ((0:Nat):Int)=some a:=rfl
   have c1:(((0:Nat):Int)<(([a,b]:List bR).length:Int)):=by simp
   have c2: ¬((0:Int)<((0:Nat):Int)):=by simp
   simp only[c1,decide_true,cond_true,g0,cH,ea,c2,decide_false,cond_false]
   rw[gP (by omega)]
   cases ra
   ·exact .inr ⟨_,rfl,rfl,λh=>by have:=pa.2 h.1;cases this⟩
   ·exact .inl ⟨_,rfl,rfl,λ_=>pa.1 rfl,λh=>by omega⟩
  ·have g0:ix ([a,b]:List bR) ((1:Nat):Int)=some b:=rfl
   have g1:ix ([a,b]:List bR) (wr (((1:Nat):Int)-1))=some a:=rfl
   have c1:(((1:Nat):Int)<(([a,b]:List bR).length:Int)):=by simp
   have c2:((0:Int)<((1:Nat):Int)):=by simp
   simp only[c1,decide_true,cond_true,g0,g1,cH,eb,c2]
   rw[gP (by omega)]
   cases rb
   ·exact .inr ⟨_,rfl,rfl,λh=>by have:=pb.2 h.2.1;cases this⟩
   ·have hrb:=pb.1 rfl
    obtain⟨rf,ef,pf⟩:=f246_ex a b ha.d hb.d hb.h hrb.hd
    simp only[oe,cond_false,ef,cH]
    cases rf
    ·exact .inr ⟨_,rfl,rfl,λh=>by have:=pf.2 h.2.2;cases this⟩
    ·exact .inl ⟨_,rfl,rfl,λ_=>h1 (by omega),λ_=>⟨hrb,pf.1 rfl⟩⟩
 ·rintro s ⟨rfl,h1,h2⟩
  have c1: ¬(((2:Nat):Int)<(([a,b]:List bR).length:Int)):=by simp
  simp only[c1,decide_false,cond_false]
  exact⟨_,rfl,h1 (by omega),h2 (by omega)⟩
 intro o ho
 cases o with
 |inr r=>obtain⟨rfl,h⟩:=ho;exact⟨1,rfl,by simpa using h⟩
 |inl _=>exact⟨0,rfl,by simpa using ho⟩
theorem f197_ex(c:bR)(g:cp)(f:Int)(hl:g.dg.length=c.cD.length)(hs:bT c.cD): ∃l,f197 c g f=some l/\bT l:=by
 have nu:c.cD.length<=4194304:=hs
 unfold f197
 refine eO (λk(s:List bn×Int)=>s.2=(k:Int)/\s.1.length<=k) (λl=>bT l) g.dg.length (by omega) ⟨rfl,by simp⟩ ?_ ?_ ?_
 ·rintro k ⟨s1,s2⟩ hk ⟨e,h1⟩
  simp only at e h1
  subst e
  have e1:g.dg[k]? =some (g.dg[k]'hk):=dC _
  have e2:c.cD[k]? =some (c.cD[k]'(by omega)):=dC _
  have m1:s1.length+1<=bJ:=by unfold bJ;omega
  simp only[cJ e1,cond_true,b9 e1,b9 e2,cH,dB (l:=g.dg) (by simp only[bT];omega) e1,de m1]
  cases decide (g.dg[k]'hk=f)
  ·exact .inl ⟨_,rfl,rfl,by show s1.length<=k+1;omega⟩
  ·exact .inl ⟨_,rfl,rfl,by simp;omega⟩
 ·rintro⟨s1,s2⟩ ⟨e,h1⟩
  simp only at e h1
  subst e
  simp only[kF,decide_false,cond_false]
  exact⟨_,rfl,by simp only[bT];omega⟩
 ·intro l hl
  exact⟨l,rfl,hl⟩
theorem f190_2_ex(l m:List bn)(hl:bT l)(hm:bT m): ∃b,f190_2 l m=some b/\True:=by
 have h1: ∀y,f315 y m=some (m.any λz=>gK y z):=by
  intro y
  unfold f315 f316 f327
  rw[dP m (λz=>gK y z) (λi _=>(i:Int)) hm]
  ·simp only[cH,fi]
   rw[<-fT]
   unfold gu
   cases m.findIdx? _<;>simp
  ·intro i z hz
   simp only[cJ hz,cond_true,b9 hz,cH]
   cases gK y z<;>rfl
  ·simp
 unfold f190_2 f185_3
 rw[dP l (λy=>m.any λz=>gK y z) (λi _=>(i:Int)) hl]
 ·simp only[cH,fi]
  cases l.findIdx? _<;>exact⟨_,rfl,trivial⟩
 ·intro i y hy
  simp only[cJ hy,cond_true,b9 hy,cH,h1]
  cases m.any λz=>gK y z<;>rfl
 ·simp
structure Cb (h:ee) (a:bR) (g:cp) (b:bR) (k:cp):Prop where
 hold: ∀x∈b.held,∀i j:Nat,gu (lq x) a.cD=(i:Int)->gu (lq x) b.cD=(j:Int)->g.dg[i]? =k.dg[j]?
 move: ¬(0<a.cD.length/\0<b.cD.length/\h.jump<kw (wr (g.pos-k.pos)) (wr (k.pos-g.pos)))
theorem f278_ex(h:ee)(hh:ni h)(a:bR)(g:cp)(b:bR)(k:cp)(ha:jM a)(hb:jM b)(fa:Fit h a g)(fb:Fit h b k)(hf:lW a b): ∃r,f278 h a g b k=some r/\(r.2=true↔Cb h a g b k):=by
 have hbh:b.held.length<=4194304:=hb.h
 have hn4:=hh.n4
 unfold f278
 refine eO (λn(s:Int)=>s=(n:Int)/\ ∀x∈b.held.take n,∀i j:Nat,gu (lq x) a.cD=(i:Int)->gu (lq x) b.cD=(j:Int)->g.dg[i]? =k.dg[j]?) (λo=>match o with
  |.inl _=> ∀x∈b.held,∀i j:Nat,gu (lq x) a.cD=(i:Int)->gu (lq x) b.cD=(j:Int)->g.dg[i]? =k.dg[j]?
  |.inr r=>r.2=false/\ ¬Cb h a g b k) b.held.length hbh ⟨rfl,λx hx=>by simp at hx⟩ ?_ ?_ ?_
 ·rintro n s hn ⟨rfl,hi⟩
  have e1:b.held[n]? =some (b.held[n]'hn):=dC _
  generalize b.held[n]'hn=x at e1
  have hm:=gx e1
  obtain⟨i,j,p,i1,j1,i2,j2⟩:=hf x hm
  have rX:=(fM.1 i2).1
  have J7:=(fM.1 j2).1
  have g1:g.dg[i]? =some (g.dg[i]'(by rw[fa.len];exact rX)):=dC _
  have g2:k.dg[j]? =some (k.dg[j]'(by rw[fb.len];exact J7)):=dC _
  generalize g.dg[i]'(by rw[fa.len];exact rX)=y1 at g1
  generalize k.dg[j]'(by rw[fb.len];exact J7)=y2 at g2
  simp only[cJ e1,cond_true,b9 e1,cH,dB hb.h e1,f119_eq a x ha.d,f119_eq b x hb.d,i1,j1,b9 g1,b9 g2]
  by_cases hy:y1=y2
  ·subst hy
   simp only[ne_eq,not_true_eq_false,decide_false,cond_false]
   refine .inl ⟨_,rfl,rfl,λy hy i' j' h1 h2=>?_⟩
   rw[cN e1,la]at hy
   rcases hy with hy|hy
   ·exact hi y hy i' j' h1 h2
   ·simp at hy;subst hy
    have ei:i'=i:=by omega
    have ej:j'=j:=by omega
    subst ei;subst ej
    rw[g1,g2]
  ·simp only[ne_eq,hy,not_false_eq_true,decide_true,cond_true]
   refine .inr ⟨_,rfl,rfl,λhS=>?_⟩
   have:=hS.hold x hm i j i1 j1
   rw[g1,g2]at this
   exact hy (Option.some.inj this)
 ·rintro s ⟨rfl,hi⟩
  simp only[kF,decide_false,cond_false]
  exact⟨_,rfl,λx hx=>hi x (by simpa using hx)⟩
 intro o ho
 cases o with
 |inr r=>obtain⟨h1,h2⟩:=ho;exact⟨r,rfl,by rw[h1];simpa using h2⟩
 |inl _=>
 simp only at ho
 simp only[vp,f198,cH]
 generalize CJ:kw (wr (g.pos-k.pos)) (wr (k.pos-g.pos))=mv
 refine gY (P1:=λj=>j=true↔(0<a.cD.length/\0<b.cD.length)) ?_ ?_
 ·by_cases c1:0<(a.cD.length:Int)
  ·by_cases c2:0<(b.cD.length:Int)
   ·simp only[c1,c2,decide_true,cond_true]
    exact⟨_,rfl,by simp;omega⟩
   ·simp only[c1,c2,decide_true,decide_false,cond_true]
    exact⟨_,rfl,⟨λh=>(by cases h),λh=>(by omega)⟩⟩
  ·simp only[c1,decide_false,cond_false]
   exact⟨_,rfl,⟨λh=>(by cases h),λh=>(by omega)⟩⟩
 intro j2 TQ
 refine gY (P1:=λj=>j=true↔(0<a.cD.length/\0<b.cD.length/\h.jump<mv)) ?_ ?_
 ·cases j2
  ·exact⟨false,rfl,⟨λh=>(by cases h),λh=>absurd (TQ.2 ⟨h.1,h.2.1⟩) (by simp)⟩⟩
  ·have:=TQ.1 rfl
   refine⟨decide (h.jump<mv),rfl,?_⟩
   simp[this]
 intro j3 hj3
 cases j3
 case true=>
  refine⟨_,rfl,?_⟩
  simp
  intro hS
  exact hS.move (by rw[CJ];exact hj3.1 rfl)
 simp only[cond_false]
 have hS:Cb h a g b k:=⟨ho,λhm=>by rw[CJ]at hm;have:=hj3.2 hm;cases this⟩
 refine gY (P1:=λ_=>True) ?_ ?_
 ·refine gY (P1:=λ_=>True) ?_ λb _=>?_
  ·cases j2
   ·exact⟨_,rfl,trivial⟩
   ·exact⟨_,rfl,trivial⟩
  ·cases b<;>exact⟨_,rfl,trivial⟩
 intro cost _
 refine eO (λn(s:Int×Int)=>s.2=((n+1:Nat):Int)) (λ_=>True) h.low.length (by omega) rfl ?_ ?_ ?_
 ·rintro n ⟨s1,s2⟩ hn e
  simp only at e
  subst e
  have c0:((n+1:Nat):Int)<=(h.low.length:Int):=by omega
  simp only[c0,decide_true,cond_true,cH]
  cases j2
  ·exact .inr ⟨_,rfl,trivial⟩
  obtain⟨l1,e1,p1⟩:=f197_ex a g ((n+1:Nat):Int) fa.len ha.d
  obtain⟨l2,e2,p2⟩:=f197_ex b k ((n+1:Nat):Int) fb.len hb.d
  obtain⟨bb,e3,_⟩:=f190_2_ex l1 l2 p1 p2
  simp only[e1,e2,e3,cH,cond_true]
  rw[gP (by omega)]
  cases decide (0<(l1.length:Int))
  ·exact .inl ⟨_,rfl,rfl⟩
  cases decide (0<(l2.length:Int))
  ·exact .inl ⟨_,rfl,rfl⟩
  cases bb<;>exact .inl ⟨_,rfl,rfl⟩
 ·rintro⟨s1,s2⟩ e
  simp only at e
  subst e
  have c0: ¬(((h.low.length+1:Nat):Int)<=(h.low.length:Int)):=by omega
  simp only[c0,decide_false,cond_false,cH]
  exact⟨_,rfl,trivial⟩
 ·intro r _
  exact⟨_,rfl,by simpa using hS⟩
structure Steps (h:ee) (a:bR) (g:cp) (b:bR) (k:cp):Prop where
 ra:ga a
 rb:ga b
 fo:lW a b
 fa:Fit h a g
 fb:Fit h b k
 st:Cb h a g b k
theorem f228_ex(h:ee)(hh:ni h)(h0:f39 h=some 0)(a:bR)(g:cp)(b:bR)(k:cp)(ha:jM a)(hb:jM b)(sg:bT g.dg)(sk:bT k.dg): ∃r,f228 h a g b k=some r/\(r.2=0↔Steps h a g b k):=by
 unfold f228
 rw[h0]
 simp only[cH,ne_eq,not_true_eq_false,decide_false,cond_false]
 refine gY (f196_ex a b ha hb) λr hr=>?_
 by_cases c1:r=0
 ·subst c1
  obtain⟨r1,r2,r3⟩:=hr.1 rfl
  simp only[not_true_eq_false,decide_false,cond_false]
  refine gY (P1:=λj=>j=false↔(Fit h a g/\Fit h b k)) ?_ ?_
  ·refine gY (f277_ex h hh a g ha.d sg ha.o) λb1 h1=>?_
   cases b1
   ·exact⟨true,rfl,by simp at h1 |-;exactλh=>absurd h h1⟩
   ·refine gY (f277_ex h hh b k hb.d sk hb.o) λb2 h2=>⟨!b2,rfl,?_⟩
    have:=h1.1 rfl
    cases b2<;>simp_all
  intro j hj
  cases j
  ·obtain⟨f1,f2⟩:=hj.1 rfl
   simp only[cond_false]
   refine gY (f278_ex h hh a g b k ha hb f1 f2 r3) λr hr=>?_
   obtain⟨n,ok⟩:=r
   cases ok
   ·refine⟨_,rfl,?_⟩
    simp at hr |-
    exactλh=>hr h.st
   ·exact⟨_,rfl,by simp;exact⟨r1,r2,r3,f1,f2,hr.1 rfl⟩⟩
  ·refine⟨_,rfl,?_⟩
   simp at hj |-
   exactλh=>hj h.fa h.fb
 ·simp only[c1,not_false_eq_true,decide_true,cond_true]
  exact⟨_,rfl,λh=>absurd h c1,λh=>absurd (hr.2 ⟨h.ra,h.rb,h.fo⟩) c1⟩
end Go.Proofs.YtpbahncblggodaaGreat
