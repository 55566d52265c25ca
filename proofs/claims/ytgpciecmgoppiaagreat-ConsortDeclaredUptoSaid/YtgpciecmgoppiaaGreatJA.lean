/- Plain laws, joined by gen/joinH.py. -/
import Derived.Test.YtgpciecmgoppiaaGreatLq
import Derived.Test.YtgpciecmgoppiaaGreatTD
set_option linter.all false
namespace Go.Am
open Go.RowKit
theorem Jt{σ τ:Type}{body:σ->Option (σ⊕τ)}(Inv:Nat->σ->Prop)(lI:τ->Prop)(n:Nat)
  (hb: ∀k s,k<n->Inv k s->(∃s',body s=some (.inl s')/\Inv (k+1) s')\/(∃r,body s=some (.inr r)/\lI r))
  (he: ∀s,Inv n s-> ∃r,body s=some (.inr r)/\lI r): ∀(d k F:Nat)(s:σ),k+d=n->d<F->Inv k s-> ∃r,bO body F s=some r/\lI r
 |0,k,F,s,hk,hF,hi=>by
  have:k=n:=by omega
  subst this;obtain⟨r,h1,h2⟩:=he s hi;cases F with
  |zero=>omega
  |succ F=>exact⟨r,by simp only[bO,h1],h2⟩
 |d+1,k,F,s,hk,hF,hi=>by
  cases F with
  |zero=>omega
  |succ F=>
   rcases hb k s (by omega) hi with⟨s',h1,h2⟩|⟨r,h1,h2⟩
   ·obtain⟨r,h3,h4⟩:=Jt Inv lI n hb he d (k+1) F s' (by omega) (by omega) h2;exact⟨r,by simp only[bO,h1,h3],h4⟩
   ·exact⟨r,by simp only[bO,h1],h2⟩
theorem jt{σ τ:Type}{body:σ->Option (σ⊕τ)}(Inv:Nat->σ->Prop)(lI:τ->Prop)(n:Nat){s0:σ}(hn:n<=4194304)(h0:Inv 0 s0)
  (hb: ∀k s,k<n->Inv k s->(∃s',body s=some (.inl s')/\Inv (k+1) s')\/(∃r,body s=some (.inr r)/\lI r))
  (he: ∀s,Inv n s-> ∃r,body s=some (.inr r)/\lI r): ∃r,bO body cr s0=some r/\lI r:=
 Jt Inv lI n hb he n 0 cr s0 (by omega) (by unfold cr;omega) h0
theorem iF{α β:Type}{x:Option α}{f:α->Option β}{P1:α->Prop}{P:β->Prop}(h1: ∃r,x=some r/\P1 r)(h2: ∀r,P1 r-> ∃z,f r=some z/\P z): ∃z,x.bind f=some z/\P z:=by
 obtain⟨r,e,hr⟩:=h1;subst e;exact h2 r hr
theorem cQ{α:Type}{p:Prop}[Decidable p]{x:Option α}(h:p):bZ p x=x:=ez h
theorem U2{α:Type}{l:List α}{i:Int}{x:α}(k:Nat)(hi:i=(k:Int))(h:l[k]? =some x):ix l i=some x:=by subst hi;exact bT h
theorem XT{α:Type}{b:Bool}{x y:Option α}{P:α->Prop}(h1:b=true-> ∃z,x=some z/\P z)(h2:b=false-> ∃z,y=some z/\P z): ∃z,(bif b then x else y)=some z/\P z:=by
 cases b
 ·exact h2 rfl
 ·exact h1 rfl
theorem jx{n:Int}(h1: -9223372036854775808<=n)(h2:n<=9223372036854775807):wr n=n:=sX h1 h2
theorem eF{σ τ β:Type}{body:σ->Option (σ⊕τ)}{f:τ->Option β}{P:β->Prop}{s0:σ}(Inv:Nat->σ->Prop)(lI:τ->Prop)(n:Nat)(hn:n<=4194304)(h0:Inv 0 s0)
  (hb: ∀k s,k<n->Inv k s->(∃s',body s=some (.inl s')/\Inv (k+1) s')\/(∃r,body s=some (.inr r)/\lI r))
  (he: ∀s,Inv n s-> ∃r,body s=some (.inr r)/\lI r) (k: ∀r,lI r-> ∃z,f r=some z/\P z): ∃z,(bO body cr s0).bind f=some z/\P z:=
 iF (jt Inv lI n hn h0 hb he) k
end Go.Am
set_option linter.all false
namespace Go.Proofs.YtgpciecmgoppiaaGreat
open Go Go.Am
set_option maxRecDepth 100000
theorem f108_eq(a lo hi:Int):f108 a lo hi=some (decide (lo<=a)&&decide (a<=hi)):=by
 unfold f108
 grind
def pB(a lo hi:Int):Bool:=decide (lo<=a)&&decide (a<=hi)
theorem f31_eq(a lo hi:Int):f31 a lo hi=some (pB a lo hi):=by
 unfold f31 pB
 grind
theorem f57_eq(a lo hi:Int):f57 a lo hi=some (pB a lo hi):=f31_eq a lo hi
theorem Ry(a b:Bool):(bif a then some true else some b)=some (a||b):=by grind
theorem Ox(x lo hi:Int):(!(pB x lo hi))=(decide (x<lo)||decide (hi<x)):=by
 unfold pB
 grind
theorem mJ{α:Type}(l:List α)(p:α->Bool):l.any (λx=>!p x)=!(l.all p):=by grind
def zO(e:Int)(t:bH):Bool:=!(pB t.bU 0 127)||(decide (t.bP<e)||(decide (t.dr<=t.bP)||decide (262144<t.dr)))
def Lm:Int->List bH->Bool
 |_,[]=>true
 |e,t::r=>!(zO e t)&&Lm t.dr r
def uK(l:List (List bH)):Bool:=decide (6<l.length)||l.any λp=>decide (400<p.length)
def jd(l:List (List bH)):Int:=if uK l then 2 else if l.all (Lm 0)then 0 else 80
theorem f107_eq(l:List (List bH))(hs:ck l):f107 l=some (gX (λp=>decide (400<p.length)) l):=by
 unfold f107;rw[eg l (λp=>decide (400<p.length)) (λi _=>(i:Int)) hs]
 ·simp only[cN,fH,gX]
  grind
 ·intro i y hy;have e:decide (400<(y.length:Int))=decide (400<y.length):=by simp;omega
  simp only[cy hy,cP,bT hy,cN,f56,e]
  grind
 ·simp
theorem f55_eq(l:List (List bH))(hs:ck l):f55 l=some (l.any λp=>decide (400<p.length)):=by
 unfold f55
 grind [f107_eq,gJ]
def stepT{τ:Type}(c:τ):Nat->Int->bH->Int⊕(Unit⊕τ):=λ_ e t=>bif zO e t then .inr (.inr c)else .inl t.dr
theorem Oy{τ:Type}(c:τ): ∀(l:List bH)(k:Nat)(e:Int),jJ (stepT c) (λ_=>.inl ()) k l e=bif Lm e l then .inl ()else .inr c
 | [],_,_=>rfl
 |t::r,k,e=>by
  simp only[jJ,stepT,Lm];cases zO e t with
  |true=>rfl
  |false=>simp only[dv];rw[Oy c r];rfl
theorem f21_eq(l:List (List bH))(hs:ck l):f21 l=some (jd l):=by
 have XU:((bif (decide (6<(l.length:Int)))then(some true)else((f55 l).bind λr2=>some r2)):Option Bool)=some (uK l):=by
  rw[f55_eq l hs];unfold uK
  grind
 unfold f21;rw[XU];simp only[cN];cases hm:uK l with
 |true=>simp[jd,hm]
 |false=>
  simp only[dv];have dK: ∀p∈l,p.length<=400:=λp hp=>by
   simp only[uK,J3,Ww,BW]at hm
   grind
  rw[eg l (λp=>!(Lm 0 p)) (λ_ _=>80) hs]
  ·simp only[cN,vQ,jd,hm,mJ]
   grind
  ·intro i p hp;have Ft:ck p:=by grind
   simp only[cy hp,cP,bT hp,cN];rw[jm (λ(e:Int)i=>(e,i)) (stepT (τ:=Int⊕(Unit⊕Int)) (.inr (.inr 80))) (λ_=>.inl ()) p (λ_ _=>True) 0 (iD Ft) trivial]
   ·grind [Oy]
   ·intro j e t ht _;refine⟨?_,λ_ _=>trivial⟩;simp only[cy ht,cP,bT ht,cN,f57_eq,stepT,zO,dp Ft ht];cases pB t.bU 0 127<;>cases decide (t.bP<e)<;>cases decide (t.dr<=t.bP)<;>cases decide (262144<t.dr)<;>rfl
   grind
  ·simp
theorem f40_eq(l:List bH)(hs:ck l):f40 l=some (Lm 0 l):=by
 unfold f40;rw[jm (λ(_:Int)i=>i) (stepT (τ:=Bool) false) (λ_=>.inl ()) l (λi e=>0<=e/\(i=0->e=0)/\ ∀j,i=j+1-> ∃p,l[j]? =some p/\e=p.dr) 0 (iD hs) ⟨Int.le_refl _,λ_=>rfl,λj h=>by cases h⟩]
 ·grind [Oy]
 ·intro i e t ht ⟨h0,h1,h2⟩;constructor
  ·have hb:((bif (decide (t.bU<0))then(some true)else(bif (decide (127<t.bU))then(some true)else(bif (decide (t.bP<0))then(some true)else(bif (decide (t.dr<=t.bP))then(some true)else(bif (decide (262144<t.dr))then(some true)else(bif (decide (0<(i:Int)))then((ix l (wr ((i:Int)-1))).bind λy9=>some (decide (t.bP<y9.dr)))else(some false))))))):Option Bool)=some (zO e t):=by
    cases i with
    |zero=>
     have:=h1 rfl;subst this;have d6:decide (0<((0:Nat):Int))=false:=by simp
     simp only[d6,dv,Ry,zO,Ox,YU]
     grind
    |succ j=>
     obtain⟨p,hp,rfl⟩:=h2 j rfl;have hw:wr (((j+1:Nat):Int)-1)=(j:Int):=by
      grind [sX]
     rw[hw,bT hp];have d6:decide (0<((j+1:Nat):Int))=true:=by grind
     simp only[d6,cP,cN,Ry,zO,Ox,YU];by_cases c3:t.bP<0
     all_goals grind
   simp only[cy ht,cP,bT ht,cN];rw[hb];simp only[cN,stepT,dp hs ht];cases zO e t<;>rfl
  ·intro e' he;simp only[stepT]at he;cases hb:zO e t with
   |true=>grind
   |false=>
    rw[hb]at he;cases he;refine⟨?_,(λh=>by cases h),(λj hj=>by grind)⟩;simp only[zO,J3,PA]at hb;omega
 grind
theorem f14_eq(l:List (List bH))(hs:ck l):f14 l=some (jd l):=by
 unfold f14;rw[jm (λ(b:Bool)i=>(b,i)) (λ_ b(p:List bH)=>(.inl (b||decide (400<p.length)):Bool⊕Bool)) (λb=>b) l (λ_ _=>True) (decide (6<(l.length:Int))) (iD hs) trivial]
 ·have key: ∀(r:List (List bH))(k:Nat)(b:Bool),jJ (λ_ b(p:List bH)=>(.inl (b||decide (400<p.length)):Bool⊕Bool)) (λb=>b) k r b=(b||r.any λp=>decide (400<p.length)):=by
   intro r
   induction r with
   |nil=>intro k b;simp[jJ]
   |cons p r ih=>intro k b;simp only[jJ,ih,List.any_cons,YU]
  rw[key];have e:decide (6<(l.length:Int))=decide (6<l.length):=by simp;omega
  rw[e];show(Option.bind (some (uK l)) _)=_;simp only[cN];cases hm:uK l with
  |true=>simp[jd,hm]
  |false=>
   simp only[dv];have hp: ∀p∈l,ck p:=λp hp=>by
    simp only[uK,J3,Ww,BW]at hm
    grind
   rw[eg l (λp=>!(Lm 0 p)) (λ_ _=>80) hs]
   ·simp only[cN,vQ,jd,hm,mJ]
    grind
   ·intro i p mj;simp only[cy mj,cP,bT mj,cN,f40_eq p (hp p (gN mj))]
    grind
   ·simp
 ·intro i b p mj _;refine⟨?_,λ_ _=>trivial⟩;have e:decide (400<(p.length:Int))=decide (400<p.length):=by simp;omega
  simp only[cy mj,cP,bT mj,cN,dp hs mj,e];cases b<;>rfl
 grind
theorem lJ{l:List (List bH)}(h:jd l=0):l.length<=6/\ ∀p∈l,p.length<=400/\Lm 0 p=true:=by
 unfold jd at h;split at h
 ·cases h
 ·rename_i h1;split at h
  ·rename_i h2;simp only[uK,vm,BW,F5,not_or,not_exists,not_and]at h1
   grind
  ·cases h
theorem Oz(a b:Nat):decide ((a:Int)<(b:Int))=decide (a<b):=by
 grind
def lK:Int->List Int->Bool
 |_,[]=>true
 |e,y::r=>!(decide (y<=e)||decide (127<y))&&lK y r
def sZ(s:List Int)(c:cE):Int:=bif decide (0<c.dJ)then wr (c.bU+(s[(c.dJ-1).toNat]?).getD 0)else c.bU
def Fu(s:List Int)(c:cE):Int:=bif c.jb then wr (sZ s c+12)else sZ s c
def gT(s:List Int)(c:cE):Int:=
 bif decide (c.dJ<0)||decide ((s.length:Int)<c.dJ)then 13 else bif decide (c.bU<0)||(decide (127<c.bU)||decide (127<Fu s c))then 10 else 0
def Fv(s:List Int)(c:cE):Bool:=decide (gT s c≠0)
def instS(a:bp):Int:=
 bif decide (14<a.bQ.length)||decide (18<a.br.length)then 2 else bif decide (a.bQ.length=0)then 11 else bif lK 0 a.br then
  (match a.bQ.find? (Fv a.br)with
   |some c=>gT a.br c
   |none=>0)
 else 11
theorem f141_eq(a:bp)(c:cE)(h1:c.dJ<=(a.br.length:Int))(h2:a.br.length<=18):f141 a c=some (Fu a.br c):=by
 unfold f141 Fu sZ;by_cases h:0<c.dJ
 ·have hw:wr (c.dJ-1)=(((c.dJ-1).toNat:Nat):Int):=by grind [sX]
  have hl:(c.dJ-1).toNat<a.br.length:=by omega
  have hg:a.br[(c.dJ-1).toNat]? =some a.br[(c.dJ-1).toNat]:=dF hl;have hd:decide (0<c.dJ)=true:=by simpa using h
  simp only[hd,cP,hw,bT hg,hg,cN,J1];cases c.jb<;>rfl
 ·have hd:decide (0<c.dJ)=false:=by simpa using h
  simp only[hd,dv,cN];cases c.jb<;>rfl
theorem s7: ∀(l:List Int)(k:Nat)(e:Int),jJ (λ_(e:Int)y=>(bif decide (y<=e)||decide (127<y)then .inr (.inr 11)else .inl y:Int⊕(Unit⊕Int))) (λ_=>.inl ()) k l e=bif lK e l then .inl ()else .inr 11
 | [],_,_=>rfl
 |y::r,k,e=>by
  simp only[jJ,lK];cases(decide (y<=e)||decide (127<y))with
  |true=>rfl
  |false=>simp only[dv,LI,Wq];exact s7 r (k+1) y
theorem OA(a b:Nat):((bif (decide (14<(a:Int)))then(some true)else(some (decide (18<(b:Int))))):Option Bool)=some (decide (14<a)||decide (18<b)):=by
 have e1:decide (14<(a:Int))=decide (14<a):=Oz 14 a;have e2:decide (18<(b:Int))=decide (18<b):=Oz 18 b
 grind
theorem XV{α:Type}(l:List α):decide ((l.length:Int)=0)=decide (l.length=0):=by
 grind
theorem f85_eq(a:bp):f85 a=some (instS a):=by
 unfold f85 instS;rw[OA,XV];simp only[cN];cases hm:(decide (14<a.bQ.length)||decide (18<a.br.length))with
 |true=>rfl
 |false=>
  simp only[J3,PA]at hm;have hs:ck a.br:=by grind
  have hc:ck a.bQ:=by grind
  simp only[dv];cases decide (a.bQ.length=0)with
  |true=>rfl
  |false=>
   simp only[dv];rw[jm (λ(e:Int)i=>(e,i)) (λ_(e:Int)y=>(bif decide (y<=e)||decide (127<y)then .inr (.inr 11)else .inl y:Int⊕(Unit⊕Int))) (λ_=>.inl ()) a.br (λ_ _=>True) 0 (iD hs) trivial]
   ·rw[s7];simp only[cN];cases lK 0 a.br with
    |false=>rfl
    |true=>
     simp only[cP,BX];rw[eg a.bQ (Fv a.br) (λ_ c=>gT a.br c) hc]
     ·simp only[cN,lH]
      grind
     ·intro i c V5;simp only[cy V5,cP,bT V5,cN,Ry,Fv];cases hb:(decide (c.dJ<0)||decide ((a.br.length:Int)<c.dJ))with
      |true=>
       have:gT a.br c=13:=by unfold gT;rw[hb];rfl
       grind
      |false=>
       have pW:=hb;simp only[J3,PA]at hb;simp only[dv,f141_eq a c (by omega) (by omega),cN,Ry];cases Gu:(decide (c.bU<0)||(decide (127<c.bU)||decide (127<Fu a.br c)))with
       |true=>
        have:gT a.br c=10:=by unfold gT;grind
        grind
       |false=>
        have:gT a.br c=0:=by unfold gT;grind
        grind
     ·simp
   ·intro i e y hy _;refine⟨?_,λ_ _=>trivial⟩;simp only[cy hy,cP,bT hy,cN,Ry,dp hs hy];cases(decide (y<=e)||decide (127<y))<;>rfl
   grind
theorem instS_ok{a:bp}(h:instS a=0):a.bQ.length<=14/\a.br.length<=18/\0<a.bQ.length/\lK 0 a.br=true/\ ∀c∈a.bQ,gT a.br c=0:=by
 unfold instS at h;cases hm:(decide (14<a.bQ.length)||decide (18<a.br.length))with
 |true=>grind
 |false=>
  rw[hm]at h;simp only[J3,PA]at hm;simp only[dv]at h;cases h0:decide (a.bQ.length=0)with
  |true=>grind
  |false=>
   rw[h0]at h;simp only[dv]at h;cases ja:lK 0 a.br with
   |false=>grind
   |true=>
    rw[ja]at h;simp only[cP]at h;simp only[PA]at h0;refine⟨by omega,by omega,by omega,rfl,λc hc=>?_⟩;cases hf:a.bQ.find? (Fv a.br)with
    |some d=>
     rw[hf]at h;have:=List.find?_some hf;simp only[Fv,BW]at this
     grind
    |none=>
     have:=List.find?_eq_none.1 hf c hc;simpa[Fv]using this
theorem ko{s:List Int}{c:cE}(h:gT s c=0):0<=c.dJ/\c.dJ<=(s.length:Int)/\0<=c.bU/\c.bU<=127/\Fu s c<=127:=by
 unfold gT at h
 grind
def kq(s:List Int)(c:cE)(k:Nat):Int:=if k=0 then c.bU else wr (c.bU+(s[k-1]?).getD 0)
def li(s:List Int)(p:Int)(i:Nat)(c:cE)(n:Nat):List aQ:=((List.range n).filter λk=>decide (kq s c k=p)).map λ(k:Nat)=>(⟨((i+1:Nat):Int),(k:Int)⟩:aQ)
def fK(s:List Int)(p:Int):Nat->List cE->List aQ
 |_,[]=>[]
 |i,c::r=>li s p i c (c.dJ.toNat+1)++fK s p (i+1) r
def eN(a:bp)(p:Int):List aQ×Int:=
 if instS a=0 then(bif decide (p<0)||decide (127<p)then([],10)else(fK a.br p 0 a.bQ,0))else([],instS a)
theorem BK(s:List Int)(p:Int)(i:Nat)(c:cE)(n:Nat):li s p i c (n+1)=li s p i c n++(bif decide (kq s c n=p)then [⟨((i+1:Nat):Int),(n:Int)⟩]else []):=by
 unfold li
 grind [List.range_succ]
theorem uL(s:List Int)(p:Int)(i:Nat)(c:cE)(n:Nat):(li s p i c n).length<=n:=by
 unfold li
 grind
theorem f201_eq(a:bp)(c:cE)(k:Nat)(h:(k:Int)<=c.dJ)(h1:c.dJ<=(a.br.length:Int))(h2:a.br.length<=18):f201 a c (k:Int)=some (kq a.br c k):=by
 unfold f201 kq;by_cases h0:k=0
 ·subst h0;rfl
 ·have hd:decide ((k:Int)=0)=false:=by simp;omega
  have hw:wr ((k:Int)-1)=((k-1:Nat):Int):=by grind [sX]
  have hg:a.br[k-1]? =some a.br[k-1]:=dF (by omega);rw[hd,dv,hw,bT hg,fN h0,hg];rfl
theorem wN(s:List Int)(p:Int): ∀(l:List cE)(i:Nat)(a:List aQ),jJ (λi a(c:cE)=>(.inl (a++li s p i c (c.dJ.toNat+1)):List aQ⊕List aQ)) (λa=>a) i l a=a++fK s p i l
 | [],_,_=>by simp[jJ,fK]
 |c::r,i,a=>by simp only[jJ,wN s p r,fK,LZ]
theorem f269_eq(a:bp)(p:Int):f269 a p=some (eN a p):=by
 unfold f269 eN;rw[f85_eq];simp only[cN,Ry];by_cases hi:instS a=0
 ·obtain⟨i1,i2,i3,i4,i5⟩:=instS_ok hi;have hd:decide (instS a≠0)=false:=by grind
  have vr:ck a.bQ:=by grind
  rw[hd,dv,ez hi];cases(decide (p<0)||decide (127<p))with
  |true=>rfl
  |false=>
   simp only[dv];rw[jm (λ(x:List aQ)i=>(x,i)) (λi x(c:cE)=>(.inl (x++li a.br p i c (c.dJ.toNat+1)):List aQ⊕List aQ)) (λx=>x) a.bQ (λi x=>x.length<=19*i) [] (iD vr) (by simp)]
   ·rw[wN];simp
   ·intro i x c hc hx;have wx:=(lf.1 hc).1;obtain⟨k1,k2,k3,k4,k5⟩:=ko (i5 c (gN hc));constructor
    ·simp only[cy hc,cP,bT hc,cN,dp vr hc];rw[jj (λk=>(x++li a.br p i c k,(k:Int))) (c.dJ.toNat+1) (by omega) (by simp[li]) (r:=x++li a.br p i c (c.dJ.toNat+1))]
     ·rfl
     ·intro k hk;have eR:decide ((k:Int)<=c.dJ)=true:=by simp;omega
      have hl:=uL a.br p i c k;have hm:(x++li a.br p i c k).length+1<=bc:=by rw[re];unfold bc;omega
      have hw:wr ((k:Int)+1)=((k+1:Nat):Int):=iz (by omega);simp only[eR,cP,f201_eq a c k (by omega) k2 i2,cN,hw,bZ,ez hm,BK]
      grind
     grind
    grind [uL]
   grind
 grind
def nw(l:List (List bH))(a:bp):Int:=if jd l=0 then instS a else jd l
theorem f58_eq(l:List (List bH))(a:bp)(hl:ck l):f58 l a=some (nw l a):=by
 unfold f58 nw
 grind [f21_eq,f85_eq]
theorem Fw{l:List (List bH)}{a:bp}(h:nw l a=0):jd l=0/\instS a=0:=by
 unfold nw at h
 grind
theorem Rz(a:bp)(c:cE)(h1:c.dJ<=(a.br.length:Int))(h2:a.br.length<=18):
  ((bif (decide (0<c.dJ))then((ix a.br (wr (c.dJ-1))).bind λy=>some (wr (c.bU+y)))else(some c.bU)):Option Int)=some (sZ a.br c):=by
 unfold sZ;by_cases h:0<c.dJ
 ·have hw:wr (c.dJ-1)=(((c.dJ-1).toNat:Nat):Int):=by grind [sX]
  have hl:(c.dJ-1).toNat<a.br.length:=by omega
  simp_all[bT]
 grind
theorem f41_eq(a:bp):f41 a=some (instS a):=by
 unfold f41 instS;rw[OA,XV];simp only[cN];cases hm:(decide (14<a.bQ.length)||decide (18<a.br.length))with
 |true=>rfl
 |false=>
  simp only[J3,PA]at hm;have hs:ck a.br:=by grind
  have hc:ck a.bQ:=by grind
  simp only[dv];cases decide (a.bQ.length=0)with
  |true=>rfl
  |false=>
   simp only[dv];rw[jm (λ(e:Int)i=>(e,i)) (λ_(e:Int)y=>(bif decide (y<=e)||decide (127<y)then .inr (.inr 11)else .inl y:Int⊕(Unit⊕Int))) (λ_=>.inl ()) a.br (λ_ _=>True) 0 (iD hs) trivial]
   ·rw[s7];simp only[cN];cases lK 0 a.br with
    |false=>rfl
    |true=>
     simp only[cP,BX];rw[eg a.bQ (Fv a.br) (λ_ c=>gT a.br c) hc]
     ·simp only[cN,lH]
      grind
     ·intro i c V5;simp only[cy V5,cP,bT V5,cN,Ry,Fv];cases hb:(decide (c.dJ<0)||decide ((a.br.length:Int)<c.dJ))with
      |true=>
       have:gT a.br c=13:=by unfold gT;rw[hb];rfl
       grind
      |false=>
       have pW:=hb;simp only[J3,PA]at hb;simp only[dv];have Q7:gT a.br c=bif decide (c.bU<0)||(decide (127<c.bU)||decide (127<Fu a.br c))then 10 else 0:=by unfold gT;rw[pW];rfl
       rw[Q7];cases h1:decide (c.bU<0)with
       |true=>rfl
       |false=>
        cases h2:decide (127<c.bU)with
        |true=>rfl
        |false=>
         simp only[YV,dv,Ie,Rz a c (by omega) (by omega),cN];have ht:((bif c.jb then(some (wr (sZ a.br c+12)))else(some (sZ a.br c))):Option Int)=some (Fu a.br c):=by unfold Fu;grind
         grind
     ·simp
   ·intro i e y hy _;refine⟨?_,λ_ _=>trivial⟩;simp only[cy hy,cP,bT hy,cN,Ry,dp hs hy];cases(decide (y<=e)||decide (127<y))<;>rfl
   grind
theorem f95_eq(a:bp)(c:cE)(i k:Nat)(hi:a.bQ[i]? =some c)(Z0:i<14)(h:(k:Int)<=c.dJ)(h1:c.dJ<=(a.br.length:Int))(h2:a.br.length<=18):
  f95 a ⟨((i+1:Nat):Int),(k:Int)⟩=some (kq a.br c k):=by
 unfold f95 kq;have hw:wr (((i+1:Nat):Int)-1)=(i:Int):=by grind [sX]
 simp only[hw,bT hi,cN];by_cases h0:k=0
 ·subst h0;rfl
 ·have hd:decide (0<(k:Int))=true:=by simp;omega
  have hw:wr ((k:Int)-1)=((k-1:Nat):Int):=by grind [sX]
  have hg:a.br[k-1]? =some a.br[k-1]:=dF (by omega);rw[hd,cP,hw,bT hg,fN h0,hg];rfl
theorem uM(s:List Int)(p:Int)(c:cE): ∀(l:List cE)(i:Nat),fK s p i (l++[c])=fK s p i l++li s p (i+l.length) c (c.dJ.toNat+1)
 | [],i=>by simp[fK]
 |d::r,i=>by
  simp only[Al,fK,uM s p c r,LZ,vl];congr 3;omega
theorem qP(s:List Int)(p:Int): ∀(l:List cE)(i:Nat),(∀c∈l,c.dJ.toNat<=18)->(fK s p i l).length<=19*l.length
 | [],i,_=>by simp[fK]
 |c::r,i,h=>by
  have h1:=qP s p r (i+1) λd hd=>h d (VK _ hd);have h2:=uL s p i c (c.dJ.toNat+1);have h3:=h c (by simp);simp only[fK,re,vl];omega
theorem f43_eq(a:bp)(p:Int):f43 a p=some (eN a p):=by
 unfold f43 eN;rw[f41_eq];simp only[cN,Ry];by_cases hi:instS a=0
 ·obtain⟨i1,i2,i3,i4,i5⟩:=instS_ok hi;have sM: ∀c∈a.bQ,c.dJ.toNat<=18:=λc hc=>by
   have:=ko (i5 c hc);omega
  have hd:decide (instS a≠0)=false:=by grind
  rw[hd,dv,ez hi];cases(decide (p<0)||decide (127<p))with
  |true=>rfl
  |false=>
   simp only[dv];rw[jj (λi=>(fK a.br p 0 (a.bQ.take i),((i+1:Nat):Int))) a.bQ.length (by omega) (by rfl) (r:=fK a.br p 0 a.bQ)]
   ·rfl
   ·intro i wx;obtain⟨c,hc⟩: ∃c,a.bQ[i]? =some c:=⟨_,dF wx⟩;obtain⟨k1,k2,k3,k4,k5⟩:=ko (i5 c (gN hc));have eR:decide (((i+1:Nat):Int)<=(a.bQ.length:Int))=true:=by simp;omega
    have Y1:wr (((i+1:Nat):Int)-1)=(i:Int):=by grind [sX]
    have DY:wr (((i+1:Nat):Int)+1)=((i+1+1:Nat):Int):=iz (by omega);have V7:(fK a.br p 0 (a.bQ.take i)).length<=19*i:=by
     grind [qP]
    have Tp:(a.bQ.take i).length=i:=by grind
    simp only[eR,cP,Y1,bT hc,cN,DY];rw[jj (λk=>(fK a.br p 0 (a.bQ.take i)++li a.br p i c k,(k:Int))) (c.dJ.toNat+1) (by omega) (by simp[li]) (r:=fK a.br p 0 (a.bQ.take (i+1)))]
    ·rfl
    ·intro k hk;have eR:decide ((k:Int)<=c.dJ)=true:=by simp;omega
     have hl:=uL a.br p i c k;have hm:(fK a.br p 0 (a.bQ.take i)++li a.br p i c k).length+1<=bc:=by rw[re];unfold bc;omega
     have hw:wr ((k:Int)+1)=((k+1:Nat):Int):=iz (by omega);simp only[eR,cP,f95_eq a c i k hc (by omega) (by omega) k2 i2,cN,hw,bZ,ez hm,BK]
     grind
    ·have eR:decide (((c.dJ.toNat+1:Nat):Int)<=c.dJ)=false:=by simp;omega
     simp only[eR,dv,cz hc,uM,Tp,J0]
   grind
 grind
theorem qQ{l:List (List bH)}: ∀(n:Nat),l.length<=n->(∀p∈l,p.length<=400)->l.flatten.length<=400*n:=by
 induction l with
 |nil=>grind
 |cons p l ih=>
  intro n hn h;cases n with
  |zero=>simp at hn
  |succ n=>
   have h1:=h p (by simp);have h2:=ih n (by grind) λq hq=>h q (VK _ hq)
   grind
theorem vU{l:List (List bH)}{k:Nat}{p:List bH}(h:l[k]? =some p):(l.take (k+1)).flatten=(l.take k).flatten++p:=by
 rw[cz h,List.flatten_append];simp
theorem ij(l:List (List bH))(k:Nat):(l.take k).flatten.length<=l.flatten.length:=by
 grind [List.take_append_drop]
theorem f110_eq(l:List (List bH))(h6:l.length<=6)(h4: ∀p∈l,p.length<=400):f110 l=some l.flatten:=by
 have hs:ck l:=by grind
 have sH:=qQ 6 h6 h4;unfold f110;rw[jj (λk=>(((l.take k).flatten.length:Int),(k:Int))) l.length (by omega) (by simp) (r:=(l.flatten.length:Int))]
 ·have F9:f161 (l.flatten.length:Int)=some []:=by unfold f161;grind
  rw[cN,F9,cN];rw[jj (λk=>((l.take k).flatten,(k:Int))) l.length (by omega) (by simp) (r:=l.flatten)]
  ·rfl
  ·intro k hk;have hg:l[k]? =some (l[k]'hk):=dF hk;generalize l[k]'hk=p at hg;have hf:=vU hg;have ht:=ij l (k+1);rw[hf,re]at ht;simp only[cy hg,cP,bT hg,cN,dp hs hg,hf];by_cases he:p=[]
   ·grind
   ·have hm:(l.take k).flatten.length+p.length<=bc:=by unfold bc;omega
    rw[show p.isEmpty=false from by grind];simp only[dv,bZ,ez hm,cN]
  ·simp
 ·intro k hk;have hg:l[k]? =some (l[k]'hk):=dF hk;generalize l[k]'hk=p at hg;have hf:=vU hg;have ht:=ij l (k+1);rw[hf,re]at ht;have hw:wr (((l.take k).flatten.length:Int)+(p.length:Int))=(((l.take k).flatten.length+p.length:Nat):Int):=by grind [sX]
  have U3:decide ((((l.take k).flatten.length+p.length:Nat):Int)<0)=false:=qf (by omega);simp only[cy hg,cP,bT hg,cN,hw,U3,dv,dp hs hg,hf,re]
 ·simp
def jL(l:List bH)(t:Int):Bool:=l.any λx=>decide (x.bP<=t)&&decide (t<x.dr)
def eT(all:List bH)(t:bH):List Int:=bif jL all t.dr then [t.bP]else [t.bP,t.dr]
theorem f111_eq(p:List bH)(t:bH)(hs:ck p):f111 p t=some (jL p t.dr):=by
 have h:f162 p t=some (gX (λx=>decide (x.bP<=t.dr)&&decide (t.dr<x.dr)) p):=by
  unfold f162;rw[eg p (λx=>decide (x.bP<=t.dr)&&decide (t.dr<x.dr)) (λi _=>(i:Int)) hs]
  ·simp only[cN,fH,gX]
   grind
  ·intro i y hy;simp only[cy hy,cP,bT hy,cN,f112]
   grind
  ·simp
 unfold f111;rw[h];simp only[cN,gJ];rfl
theorem Fx(all:List bH)(t:bH):(eT all t).length<=2:=by unfold eT;grind
theorem oN(all:List bH): ∀(l:List bH),(l.flatMap (eT all)).length<=2*l.length
 | []=>by simp
 |t::l=>by
  have:=oN all l;have:=Fx all t;simp only[F1,re,vl];omega
theorem f60_eq(l:List (List bH))(h6:l.length<=6)(h4: ∀p∈l,p.length<=400):f60 l=some ((l.flatten.flatMap (eT l.flatten)).foldl pZ [0]):=by
 have sH:=qQ 6 h6 h4;unfold f60;rw[f110_eq l h6 h4];generalize l.flatten=all at sH |-
 have hs:ck all:=by grind
 simp only[cN];rw[jj (λk=>((0:Int)::(all.take k).flatMap (eT all),(k:Int))) all.length (by omega) (by simp) (r:=0::all.flatMap (eT all))]
 ·have hl:=oN all all;have e1:f113 (0::all.flatMap (eT all))=some (kE (0::all.flatMap (eT all))):=by
   unfold f113;grind
  have R3:=oK (0::all.flatMap (eT all));have e2:(kE (0::all.flatMap (eT all))).take (0::all.flatMap (eT all)).length=kE (0::all.flatMap (eT all)):=sq (by omega);have e3:f114 (kE (0::all.flatMap (eT all)))=some (Go.Lib.compact (kE (0::all.flatMap (eT all)))):=by
   unfold f114;grind
  simp only[cN,e1,bZ,ez R3,e3,Rv]
 ·intro k hk;have hg:all[k]? =some (all[k]'hk):=dF hk;generalize all[k]'hk=t at hg;have hl:=oN all (all.take k);have hlk:(all.take k).length<=k:=by simp;omega
  have m1:((0:Int)::(all.take k).flatMap (eT all)).length+1<=bc:=by simp only[vl];unfold bc;omega
  have m2:(((0:Int)::(all.take k).flatMap (eT all))++[t.bP]).length+1<=bc:=by simp only[re,vl,LY];unfold bc;omega
  simp only[cy hg,cP,bT hg,cN,bZ,ez m1,f111_eq all t hs,ez m2,dp hs hg,cz hg,List.flatMap_append,F1,PY,wV,eT]
  grind
 ·simp
theorem Fy{α:Type}(p:α->Bool)(l:List α):(match l.find? p with|some _=>true|none=>false)=l.any p:=by
 grind
theorem f130_eq(l:List (List bH))(t:Int)(hl:ck l)(hp: ∀p∈l,ck p):f130 l t=some (!(jL l.flatten t)):=by
 unfold f130;rw[eg (τ:=Bool) l (λp=>jL p t) (λ_ _=>false) hl (by
  intro i y hy;have DO:=hp y (gN hy);simp only[cy hy,cP];rw[eg (τ:=Int⊕(Unit⊕Bool)) y (λx=>decide (x.bP<=t)&&decide (t<x.dr)) (λ_ _=>.inr (.inr false)) DO (by
   intro j x hx;simp only[bT hy,cN,cy hx,cP,bT hx]
   grind) (by simp[bT hy])]
  rw[lH];have h:=Fy (λx:bH=>decide (x.bP<=t)&&decide (t<x.dr)) y;unfold jL
  grind) (by simp)]
 rw[lH];have h:=Fy (λp=>jL p t) l;have h2:jL l.flatten t=l.any λp=>jL p t:=by unfold jL;grind
 grind
theorem BL(n:Int): ∀{l:List Int},qM l->l=l.filter (λx=>decide (x<n))++l.filter λx=>!decide (x<n)
 | [],_=>rfl
 |x::l,h=>by
  obtain⟨h1,h2⟩:=Dt.1 h;by_cases hx:x<n
  ·rw[List.filter_cons_of_pos (by grind),List.filter_cons_of_neg (by grind),Al,<-BL n h2]
  grind [List.filter_eq_nil_iff,List.filter_eq_self]
def BM(l:List Int)(n:Int):Int->Option (Int⊕Int):=λ(xi:Int)=>((bif (decide (0<xi))then((ix l (wr (xi-1))).bind λy2=>some (decide (n<=y2)))else(some false)):Option Bool).bind λ(XW:Bool)=>bif XW then(some (.inl (wr (xi-1))))else(some (.inr xi))
theorem BN(A B:List Int)(n:Int)(hA: ∀x∈A,x<n)(hB: ∀x∈B,n<=x)(hs:ck (A++B)): ∀(k ni:Nat),k<=B.length->k<ni->bO (BM (A++B) n) ni ((A.length+k:Nat):Int)=some (A.length:Int)
 |_,0,_,h=>by omega
 |0,ni+1,_,_=>by
  by_cases h0:A.length=0
  ·have hd:decide ((0:Int)<((A.length+0:Nat):Int))=false:=qf (by omega);simp only[bO,BM,hd,dv,cN];rfl
  ·simp only[ck,re]at hs;have hd:decide ((0:Int)<((A.length+0:Nat):Int))=true:=Du (by omega);have hw:wr (((A.length+0:Nat):Int)-1)=((A.length-1:Nat):Int):=by grind [sX]
   have hg:(A++B)[A.length-1]? =some (A[A.length-1]'(by omega)):=by grind
   have ha:=hA _ (F2 (l:=A) (n:=A.length-1) (by omega));have U4:decide (n<=A[A.length-1]'(by omega))=false:=qf (by omega);simp only[bO,BM,hd,cP,hw,bT hg,cN,U4,dv];rfl
 |k+1,ni+1,hk,hf=>by
  have vx:=hs;simp only[ck,re]at vx;have hd:decide ((0:Int)<((A.length+(k+1):Nat):Int))=true:=Du (by omega);have hw:wr (((A.length+(k+1):Nat):Int)-1)=((A.length+k:Nat):Int):=by grind [sX]
  have hg:(A++B)[A.length+k]? =some (B[k]'(by omega)):=by
   grind
  have hb:=hB _ (F2 (l:=B) (n:=k) (by omega));have U4:decide (n<=B[k]'(by omega))=true:=Du hb;simp only[bO,BM,hd,cP,hw,bT hg,cN,U4];exact BN A B n hA hB hs k ni (by omega) (by omega)
theorem FA(A B:List Int)(n:Int)(d:Nat)(hd:d=A.length)(Y:List Int)(hY:Y=(A++B)++[0]):
  (QG Y (d+1) (Y.length-(d+1)) ((Y.drop d).take (Y.length-d))).set d n=A++n::B:=by
 unfold QG;subst hd;rw[LZ]at hY;have hl:Y.length=A.length+(B.length+1):=by rw[hY];simp
 have h1:Y.drop A.length=B++[0]:=by grind
 have h2:Y.take (A.length+1)=A++(B++[0]).take 1:=by grind
 have h3:(B++[0]).take (Y.length-A.length)=B++[0]:=sq (by simp;omega);have h4:min (B++[(0:Int)]).length (Y.length-(A.length+1))=B.length:=by simp;omega
 have h5:(B++[(0:Int)]).take B.length=B:=List.take_left;have h6:Y.drop (A.length+1+B.length)=[]:=Wv (by omega);rw[h1,h3,h4,h5,h6,h2,wV];obtain⟨x,hx⟩: ∃x,(B++[(0:Int)]).take 1=[x]:=by
  cases B with
  |nil=>grind
  |cons b B=>grind
 grind
theorem f129_eq(l:List Int)(n:Int)(ha:qM l)(hs:l.length<=100000):f129 l n=some (pZ l n):=by
 have DG:=BL n ha;have hAm: ∀x∈l.filter (λx=>decide (x<n)),x<n:=λx hx=>by grind
 have hBm: ∀x∈l.filter (λx=>!decide (x<n)),n<=x:=λx hx=>by grind
 have hBa:qM (l.filter (λx=>!decide (x<n))):=ha.filter _;have aa0:pZ l n=bif l.any (λx=>decide (x=n))then l else l.filter (λx=>decide (x<n))++n::l.filter λx=>!decide (x<n):=rfl;rw[aa0];generalize l.filter (λx=>decide (x<n))=A at DG hAm;generalize l.filter (λx=>!decide (x<n))=B at DG hBm hBa;have dK:l.length=A.length+B.length:=by grind
 have FB:ck (A++B):=by grind
 have OB:=BN A B n hAm hBm FB B.length cr (fw _) (by grind);unfold f129;rw[<-DG]at OB;have hlc:((A.length+B.length:Nat):Int)=(l.length:Int):=by rw[dK]
 rw[hlc]at OB;have SP:bO (σ:=Int) (τ:=Int) (BM l n) cr (l.length:Int)=some (A.length:Int):=OB;unfold BM at SP;rw[SP,cN];cases hB:B with
 |nil=>
  subst hB;have hd:decide ((A.length:Int)<(l.length:Int))=false:=qf (by grind);have OC:l.any (λx=>decide (x=n))=false:=by
   grind
  rw[OC,hd];simp only[dv,cN];have m1:l.length+1<=bc:=by unfold bc;omega
  have hw:wr ((A.length:Int)+1)=((A.length+1:Nat):Int):=iz (by omega);have LM:(l++[(0:Int)]).length=A.length+([]:List Int).length+1:=by grind
  simp only[hw,wb,bZ,ez m1];have hq:=FA A [] n A.length rfl (l++[0]) (by rw[DG]);have XX:=fL List.length hq;rw[List.length_set]at XX;rw[ez (by omega),ez (by grind),ez (by omega),ez (by grind),ez (by grind),ez (by grind),ez (by grind)]
  grind [bT]
 |cons b B'=>
  subst hB;have hd:decide ((A.length:Int)<(l.length:Int))=true:=Du (by grind);have hg:l[A.length]? =some b:=by grind
  rw[hd,cP,bT hg,cN,cN];by_cases he:b=n
  ·grind
  ·have OC:l.any (λx=>decide (x=n))=false:=by
    rw[DG];refine Ww.2 λx hx=>?_;rcases oq.1 hx with h|h
    ·grind
    ·have hb:=hBm b (by simp);rcases pU.1 h with rfl|h
     ·grind
     ·have:=(Dt.1 hBa).1 x h;simp;omega
   rw[OC,qf he];simp only[dv];have m1:l.length+1<=bc:=by unfold bc;omega
   have hw:wr ((A.length:Int)+1)=((A.length+1:Nat):Int):=iz (by omega);have LM:(l++[(0:Int)]).length=A.length+(b::B').length+1:=by grind
   simp only[hw,wb,bZ,ez m1];have hq:=FA A (b::B') n A.length rfl (l++[0]) (by rw[DG]);have XX:=fL List.length hq;rw[List.length_set]at XX;rw[ez (by omega),ez (by grind),ez (by omega),ez (by grind),ez (by grind),ez (by grind),ez (by grind)];obtain⟨v,hv⟩: ∃v,(QG (l++[(0:Int)]) (A.length+1) ((l++[0]).length-(A.length+1)) (((l++[0]).drop A.length).take ((l++[0]).length-A.length)))[A.length]? =some v:=⟨_,dF (by grind)⟩;rw[bT hv,cN,hq]
def s8(all L:List bH):List Int:=(L.flatMap (eT all)).foldl pZ [0]
theorem vV: ∀(l a:List Int),(l.foldl pZ a).length<=a.length+l.length
 | [],a=>by simp
 |x::l,a=>by
  have h1:=vV l (pZ a x);have h2:=E9 (l:=a) x;simp only[VI,vl];omega
theorem Ju(all L:List bH)(hL:L.length<=2500):qM (s8 all L)/\(s8 all L).length<=6000:=by
 refine⟨(oL _ [0] (by simp[qM])).1,?_⟩;have h1:=vV (L.flatMap (eT all)) [0];have h2:=oN all L;simp only[vl,LY]at h1;unfold s8;omega
theorem Ln(all L:List bH)(t:bH):s8 all (L++[t])=(eT all t).foldl pZ (s8 all L):=by
 unfold s8
 grind
theorem f76_eq(l:List (List bH))(h6:l.length<=6)(h4: ∀p∈l,p.length<=400):f76 l=some (s8 l.flatten l.flatten):=by
 have hs:ck l:=by grind
 have Ft: ∀p∈l,ck p:=λp hp=>by grind
 have sH:=qQ 6 h6 h4;have h93:=λt=>f130_eq l t hs Ft;unfold f76;generalize jB:l.flatten=all at h93 sH |-
 rw[jj (λk=>(s8 all (l.take k).flatten,(k:Int))) l.length (by omega) (by simp[s8]) (r:=s8 all all)]
 ·rfl
 ·intro k hk;have hg:l[k]? =some (l[k]'hk):=dF hk;generalize l[k]'hk=p at hg;have hp4:=h4 p (gN hg);have DG:=Ft p (gN hg);have hf:=vU hg;have ht:=ij l (k+1);rw[hf,re,jB]at ht;simp only[cy hg,cP];rw[jj (λj=>(s8 all ((l.take k).flatten++p.take j),(j:Int))) p.length (by omega) (by simp) (r:=s8 all ((l.take k).flatten++p))]
  ·grind [dp]
  ·intro j hj;have XY:p[j]? =some (p[j]'hj):=dF hj;generalize p[j]'hj=t at XY;have hlj:((l.take k).flatten++p.take j).length<=2400:=by grind
   obtain⟨a1,a2⟩:=Ju all _ (AW hlj (by omega));have Od:s8 all ((l.take k).flatten++p.take (j+1))=(eT all t).foldl pZ (s8 all ((l.take k).flatten++p.take j)):=by
    rw[cz XY,<-LZ,Ln]
   rw[Od];generalize s8 all ((l.take k).flatten++p.take j)=acc at a1 a2 |-
   have b1:=(Jp a1 t.bP).1;have b2:=E9 (l:=acc) t.bP;simp only[bT hg,cN,cy XY,cP,bT XY,f129_eq acc t.bP a1 (by omega),h93,dp DG XY];unfold eT
   grind [f129_eq]
  ·simp[bT hg]
 grind
def gF:List cB:=[⟨1,true,false⟩,⟨1,false,false⟩,⟨2,true,false⟩,⟨1,false,true⟩,⟨2,false,false⟩,⟨3,true,false⟩,⟨2,false,true⟩,⟨3,false,false⟩,⟨4,true,false⟩,⟨3,false,true⟩,⟨4,false,false⟩,⟨5,true,false⟩,⟨4,false,true⟩,⟨5,false,false⟩,⟨6,true,false⟩,⟨5,false,true⟩,⟨6,false,false⟩,⟨7,true,false⟩,⟨6,false,true⟩,⟨7,false,false⟩,⟨7,false,true⟩]
def tk(s:cB):Nat:=((f116 s).getD 0).toNat
theorem f115_eq:f115=some gF:=by kernel_rfl
theorem uN:gF.length=21:=rfl
theorem kY: ∀s∈gF,f116 s=some (tk s:Int)/\1<=tk s/\tk s<=768:=by
 have h:(gF.all λs=>decide (f116 s=some (tk s:Int))&&(decide (1<=tk s)&&decide (tk s<=768)))=true:=by decide
 grind
structure AR (T:List Int) (n k:Nat):Prop where
 len:T.length=n+1
 z:T[0]? =some 0
 lo: ∀m,m<=k-> ∀e,T[m]? =some e-> -1<=e/\e<=(m:Int)/\(0<m->e≠0)
 p2: ∀m,0<m->m<=k-> ∀e,T[m]? =some e->0<=e-> ∃s∈gF,tk s<=m/\T[m-tk s]? =some (e-1)
 p3: ∀m,m<=k-> ∀s∈gF,tk s<=m-> ∀e e',T[m]? =some e->T[m-tk s]? =some e'->0<=e'->0<=e/\e<=e'+1
theorem AR.step{T:List Int}{n k:Nat}(h:AR T n k)(hk:k<n)(hn:n<=4608): ∃r,bO (σ:=(List Int×Int)) (τ:=(List Int)) (λ((zQ,OD):(List Int×Int))=>bif (decide (OD<(gF.length:Int)))then((((ix gF OD).bind λy9=>(f116 y9).bind λr10=>((bif (decide (0<=(wr (((k+1:Nat):Int)-r10))))then((ix zQ (wr (((k+1:Nat):Int)-r10))).bind λOE=>bif (decide (0<=OE))then((ix zQ ((k+1:Nat):Int)).bind λGf=>bif (decide (Gf<0))then(some true)else(some (decide ((wr (OE+1))<Gf))))else(some false))else(some false)):Option Bool).bind λ(XZ:Bool)=>bif XZ then((ix zQ (wr (((k+1:Nat):Int)-r10))).bind λy17=>(ix zQ ((k+1:Nat):Int)).bind λy18=>some (zQ.set (((k+1:Nat):Int)).toNat (wr (y17+1))))else(some zQ)):Option (List Int)).bind λ(X0:(List Int))=>some (.inl (X0,(wr (OD+1)))))else(some (.inr zQ))) cr ((T.set (((k+1:Nat):Int)).toNat (-1)),0)=some r/\AR r n (k+1):=by
 have hl:=h.len;refine jt (λj(s:List Int×Int)=>s.2=(j:Int)/\s.1.length=n+1/\(∀m,m≠k+1->s.1[m]? =T[m]?)/\ ∃e,s.1[k+1]? =some e/\ -1<=e/\e<=((k+1:Nat):Int)/\e≠0/\
   (0<=e-> ∃s∈gF,tk s<=k+1/\T[k+1-tk s]? =some (e-1))/\ ∀s∈gF.take j,tk s<=k+1-> ∀e',T[k+1-tk s]? =some e'->0<=e'->0<=e/\e<=e'+1) _ gF.length (by rw[uN];omega) ?_ ?_ ?_
 ·refine⟨rfl,by simp[hl],λm hm=>?_,-1,?_,by omega,by omega,by omega,λh=>by omega,by simp⟩
  all_goals grind
 ·rintro j ⟨q,s2⟩ hj ⟨e0,hq,zR,e,he,h1,h2,h3,h4,h5⟩;simp only at e0 hq zR he;subst e0;have x1:gF[j]? =some (gF[j]'hj):=dF _;generalize gF[j]'hj=s at x1;have hm:=gN x1;obtain⟨t1,t2,t3⟩:=kY s hm;have FB:ck gF:=by grind [uN]
  have w0:wr (((k+1:Nat):Int)-(tk s:Int))=((k+1:Nat):Int)-(tk s:Int):=jx (by omega) (by omega);simp only[cy x1,cP,bT x1,t1,cN,dp FB x1,w0];have keep:(∀e',tk s<=k+1->T[k+1-tk s]? =some e'->0<=e'->0<=e/\e<=e'+1)-> ∀s'∈gF.take (j+1),tk s'<=k+1-> ∀e',T[k+1-tk s']? =some e'->0<=e'->0<=e/\e<=e'+1:=λhs s' vx ht e' HO h0=>by
   rw[cz x1,oq]at vx
   grind
  by_cases c1:tk s<=k+1
  ·have c2:(0:Int)<=((k+1:Nat):Int)-(tk s:Int):=by omega
   have fG:k+1-tk s≠k+1:=by omega
   have y0:T[k+1-tk s]? =some (T[k+1-tk s]'(by omega)):=dF _;generalize T[k+1-tk s]'(by omega)=y at y0;have y1:q[k+1-tk s]? =some y:=by grind
   have i1:ix q (((k+1:Nat):Int)-(tk s:Int))=some y:=U2 (k+1-tk s) (by omega) y1;have hy:=h.lo (k+1-tk s) (by omega) y y0;simp only[c2,ju,cP,i1,cN];by_cases c3:0<=y
   ·have w1:wr (y+1)=y+1:=jx (by omega) (by omega);simp only[c3,ju,cP,bT he,cN,w1];have DW: ∀e2,e2=y+1->(e<0\/e2<e)-> ∃s',some (Sum.inl (q.set (k+1) e2,((j+1:Nat):Int)):(List Int×Int)⊕List Int)=some (.inl s')/\s'.2=((j+1:Nat):Int)/\s'.1.length=n+1/\(∀m,m≠k+1->s'.1[m]? =T[m]?)/\ ∃e,s'.1[k+1]? =some e/\ -1<=e/\e<=((k+1:Nat):Int)/\e≠0/\
      (0<=e-> ∃s∈gF,tk s<=k+1/\T[k+1-tk s]? =some (e-1))/\ ∀s∈gF.take (j+1),tk s<=k+1-> ∀e',T[k+1-tk s]? =some e'->0<=e'->0<=e/\e<=e'+1:=λe2 Z1 kc=>by
     subst Z1;refine⟨_,rfl,rfl,by grind,λm hm=>?_,y+1,?_,by omega,by omega,by omega,λ_=>⟨s,hm,c1,by grind⟩,λs' vx ht e' HO h0=>?_⟩
     ·grind
     ·grind
     ·rw[cz x1,oq]at vx
      grind
    have iq:ix q (((k+1:Nat):Int)-(tk s:Int))=some y:=i1;by_cases c4:e<0
    ·simp only[c4,ju,cP,cN,i1,bT he,wb,w1];exact .inl (DW (y+1) rfl (.inl c4))
    ·by_cases c5:y+1<e
     ·simp only[c4,c5,ju,fZ,cP,dv,cN,i1,bT he,wb,w1];exact .inl (DW (y+1) rfl (.inr c5))
     ·simp only[c4,c5,fZ,dv,cN];refine .inl ⟨_,rfl,rfl,hq,zR,e,he,h1,h2,h3,h4,keep λe' _ HO _=>?_⟩
      grind
   ·simp only[c3,fZ,dv,cN];refine .inl ⟨_,rfl,rfl,hq,zR,e,he,h1,h2,h3,h4,keep λe' _ HO h0=>?_⟩
    grind
  ·have c2: ¬((0:Int)<=((k+1:Nat):Int)-(tk s:Int)):=by omega
   simp only[c2,fZ,dv,cN];exact .inl ⟨_,rfl,rfl,hq,zR,e,he,h1,h2,h3,h4,keep λe' ht _ _=>absurd ht c1⟩
 ·rintro⟨q,s2⟩ ⟨e0,hq,zR,e,he,h1,h2,h3,h4,h5⟩;simp only at e0 hq zR he;subst e0;simp only[AX,fZ,dv];rw[LH]at h5;refine⟨_,rfl,hq,by rw[zR 0 (by omega)];exact h.z,λm hm e' HO=>?_,λm h0 hm e' HO hz=>?_,λm hm s hs ht e1 e2 Zf Z1 h0=>?_⟩
  ·by_cases SD:m=k+1
   ·grind
   ·rw[zR m SD]at HO;exact h.lo m (by omega) e' HO
  ·by_cases SD:m=k+1
   ·subst SD;rw[he]at HO;cases HO;obtain⟨s,a,b,c⟩:=h4 hz;have:=(kY s a).2.1
    grind
   ·rw[zR m SD]at HO;obtain⟨s,a,b,c⟩:=h.p2 m h0 (by omega) e' HO hz
    grind
  ·have:=(kY s hs).2.1;rw[zR _ (by omega)]at Z1;by_cases SD:m=k+1
   ·grind
   ·rw[zR m SD]at Zf;exact h.p3 m (by omega) s hs ht e1 e2 Zf Z1 h0
def kr(l:List cB):Nat:=l.foldr (λs n=>tk s+n) 0
theorem Lo{a b:List cB}(h:a.Perm b):kr a=kr b:=by
 induction h with
 |nil=>rfl
 |cons x _ ih=>simp only[kr,YR]at *;omega
 |swap x y l=>simp only[kr,YR];omega
 |trans _ _ h1 h2=>omega
inductive oc (T:List Int):Nat->Nat->Prop
 |z (a:Nat):oc T 0 a
 |k {m a:Nat} {s:cB} {e:Int} (hs:s∈gF) (h1:tk s<=a) (h2:tk s<=m) (he:T[m]? =some e) (HO:T[m-tk s]? =some (e-1)) (hr:oc T (m-tk s) (tk s)):oc T m a
theorem OG{T:List Int}{n:Nat}(h:AR T n n): ∀(L:List cB)(m:Nat),(∀s∈L,s∈gF)->kr L=m->m<=n-> ∃e,T[m]? =some e/\0<=e/\e<=(L.length:Int)
 | [],m,_,hm,_=>by
  simp[kr]at hm;subst hm;exact⟨0,h.z,by omega,by simp⟩
 |s::L,m,hL,hm,hn=>by
  have hs:=hL s (by simp);have hm:tk s+kr L=m:=hm;obtain⟨e',h1,h2,h3⟩:=OG h L (m-tk s) (λx hx=>hL x (by simp[hx])) (by omega) (by omega);have dK:=h.len;have x1:T[m]? =some (T[m]'(by omega)):=dF _;obtain⟨a,b⟩:=h.p3 m hn s hs (by omega) _ e' x1 h1 h2;exact⟨_,x1,a,by simp;omega⟩
theorem OH{T:List Int}{n:Nat}(h:AR T n n): ∀(d m:Nat),m<=d->m<=n-> ∀e,T[m]? =some e->0<=e-> ∃L:List cB,(∀s∈L,s∈gF)/\kr L=m/\(L.length:Int)=e
 |d,0,_,_,e,he,h0=>by
  rw[h.z]at he;cases he;exact⟨[],by simp,rfl,by simp⟩
 |0,m+1,hd,_,_,_,_=>by omega
 |d+1,m+1,hd,hn,e,he,h0=>by
  obtain⟨s,h1,h2,h3⟩:=h.p2 (m+1) (by omega) hn e he h0;have hs:=(kY s h1).2.1;have fG:=(h.lo (m+1) hn e he).2.2 (by omega);obtain⟨L,a,b,c⟩:=OH h d (m+1-tk s) (by omega) (by omega) (e-1) h3 (by omega);refine⟨s::L,λx hx=>?_,?_,by simp;omega⟩
  ·simp at hx;rcases hx with rfl|hx
   ·exact h1
   ·exact a x hx
  ·show tk s+kr L=m+1;omega
theorem FC{T:List Int}{n:Nat}(h:AR T n n): ∀(L:List cB)(m a:Nat)(e:Int),(∀s∈L,s∈gF/\tk s<=a)->kr L=m->m<=n->T[m]? =some e->(L.length:Int)=e->(L.Pairwise λx y=>tk y<=tk x)->oc T m a
 | [],m,a,e,_,hm,_,_,_,_=>by simp[kr]at hm;subst hm;exact .z a
 |s::L,m,a,e,hL,hm,hn,he,hl,hp=>by
  have hm:tk s+kr L=m:=hm;obtain⟨e',h1,h2,h3⟩:=OG h L (m-tk s) (λx hx=>(hL x (by simp[hx])).1) (by omega) (by omega);obtain⟨_,b⟩:=h.p3 m hn s (hL s (by simp)).1 (by omega) e e' he h1 h2;have HO:e'=e-1:=by simp at hl;omega
  subst HO;rw[Dt]at hp;exact .k (hL s (by simp)).1 (hL s (by simp)).2 (by omega) he h1 (FC h L (m-tk s) (tk s) (e-1) (λx hx=>⟨(hL x (by simp[hx])).1,hp.1 x hx⟩) (by omega) (by omega) h1 (by simp at hl;omega) hp.2)
theorem OI{T:List Int}{n:Nat}(h:AR T n n){e:Int}(he:T[n]? =some e)(h0:0<=e):oc T n 768:=by
 obtain⟨L,h1,h2,h3⟩:=OH h n n (fw _) (fw _) e he h0;have hp:=List.mergeSort_perm L λx y=>decide (tk y<=tk x);refine FC h (L.mergeSort λx y=>decide (tk y<=tk x)) n 768 e (λs hs=>?_) (by grind [Lo]) (fw _) he (by simp_all) ?_
 ·simp_all[kY]
 grind [List.pairwise_mergeSort]
theorem f117_ex(T:List Int)(n:Nat)(hT:AR T n n)(hn:n<=4608): ∀(fu m a:Nat)(l:List cB),m<fu->m<=n->l.length+m<=10000->
  ∃r,f117r fu (m:Int) (a:Int) gF T l=some r/\((r.1=true/\ ∃q,r.2=l++q/\kr q=m/\ ∀s∈q,s∈gF)\/(r.1=false/\r.2=l))/\(oc T m a->r.1=true)
 |0,m,a,l,h,_,_=>by omega
 |fu+1,m,a,l,hf,hm,hl=>by
  have dK:=hT.len;unfold f117r;by_cases h0:m=0
  ·subst h0;simp only[ju,cP];exact⟨_,rfl,.inl ⟨rfl,[],by simp,rfl,by simp⟩,λ_=>rfl⟩
  ·have c0: ¬((m:Int)=0):=by omega
   simp only[c0,fZ,dv];have key:=jt (body:=λ((Jv,OJ):(List cB×Int))=>bif (decide (OJ<(gF.length:Int)))then((((ix gF OJ).bind λy3=>(f116 y3).bind λr4=>((bif (decide ((a:Int)<r4))then(some true)else(bif (decide ((m:Int)<r4))then(some true)else((ix T (wr ((m:Int)-r4))).bind λy7=>(ix T (m:Int)).bind λy8=>some (decide (y7≠(wr (y8-1))))))):Option Bool).bind λ(X1:Bool)=>bif X1 then(some (.inl Jv))else(bZ (Jv.length+1<=bc)<|(f117r fu (wr ((m:Int)-r4)) r4 gF T (Jv++([y3]:List cB))).bind λHP=>bif HP.1 then(some (.inr (.inr (.inr (true,HP.2)))))else(bZ (0<=(wr ((HP.2.length:Int)-1)))<|bZ ((wr ((HP.2.length:Int)-1)).toNat<=HP.2.length)<|bZ ((wr ((HP.2.length:Int)-1)).toNat<=HP.2.length)<|some (.inl (HP.2.take (wr ((HP.2.length:Int)-1)).toNat))))):Option ((List cB)⊕((List cB×Int)⊕((List cB)⊕(Bool×List cB))))).bind (Sum.elim (λ(X2:(List cB))=>some (.inl (X2,(wr (OJ+1))))) some))else(some (.inr (.inl Jv))))
    (λj(s:List cB×Int)=>s.2=(j:Int)/\s.1=l/\ ∀s∈gF.take j,¬(tk s<=a/\tk s<=m/\ ∃e,T[m]? =some e/\T[m-tk s]? =some (e-1)/\oc T (m-tk s) (tk s)))
    (λo=>match o with
     |.inl q=>q=l/\ ∀s∈gF,¬(tk s<=a/\tk s<=m/\ ∃e,T[m]? =some e/\T[m-tk s]? =some (e-1)/\oc T (m-tk s) (tk s))
     |.inr r=>r.1=true/\ ∃q,r.2=l++q/\kr q=m/\ ∀s∈q,s∈gF) gF.length (s0:=(l,0)) (by rw[uN];omega) ⟨rfl,rfl,by simp⟩ ?_ ?_
   ·obtain⟨o,k1,k2⟩:=key;simp only[k1,cN];cases o with
    |inl q=>
     refine⟨_,rfl,.inr ⟨rfl,k2.1⟩,λhc=>?_⟩;cases hc with
     |z=>omega
     |k hs h1 h2 he HO hr=>grind
    |inr r=>grind
   ·rintro j ⟨q,s2⟩ hj ⟨e0,e1,ym⟩;simp only at e0 e1;subst e0;subst e1;have x1:gF[j]? =some (gF[j]'hj):=dF _;generalize gF[j]'hj=s at x1;have hs:=gN x1;obtain⟨t1,t2,t3⟩:=kY s hs;have FB:ck gF:=by grind [uN]
    simp only[cy x1,cP,bT x1,t1,cN,dp FB x1];have skip:(¬(tk s<=a/\tk s<=m/\ ∃e,T[m]? =some e/\T[m-tk s]? =some (e-1)/\oc T (m-tk s) (tk s)))-> ∀s'∈gF.take (j+1),¬(tk s'<=a/\tk s'<=m/\ ∃e,T[m]? =some e/\T[m-tk s']? =some (e-1)/\oc T (m-tk s') (tk s')):=λhq s' vx=>by
     rw[cz x1,oq]at vx
     grind
    by_cases c1:(a:Int)<(tk s:Int)
    ·simp only[c1,ju,cP,cN,BX]
     grind
    by_cases c2:(m:Int)<(tk s:Int)
    ·simp only[c1,c2,ju,fZ,cP,dv,cN,BX]
     grind
    have w0:wr ((m:Int)-(tk s:Int))=((m-tk s:Nat):Int):=by grind [jx]
    have y1:T[m-tk s]? =some (T[m-tk s]'(by omega)):=dF _;have y2:T[m]? =some (T[m]'(by omega)):=dF _;generalize T[m-tk s]'(by omega)=y at y1;generalize T[m]'(by omega)=z at y2;have hz:=hT.lo m hm z y2;have w1:wr (z-1)=z-1:=jx (by omega) (by omega);simp only[c1,c2,fZ,dv,w0,bT y1,bT y2,cN,w1];by_cases c3:y=z-1
    ·have m1:q.length+1<=bc:=by unfold bc;omega
     subst c3;obtain⟨r,k1,k2,k3⟩:=f117_ex T n hT hn fu (m-tk s) (tk s) (q++[s]) (by omega) (by omega) (by simp;omega);simp only[qd,qe,fZ,dv,cQ m1,k1,cN];rcases k2 with⟨r1,q',r2,r3,r4⟩|⟨r1,r2⟩
     ·simp only[r1,cP,cN,Sum.elim_inr];refine .inr ⟨_,rfl,rfl,s::q',by rw[r2];simp,?_,λx hx=>?_⟩
      ·show tk s+kr q'=m;omega
      grind
     ·have w2:wr ((r.2.length:Int)-1)=(q.length:Int):=by grind [jx]
      simp_all[cQ]
    simp_all
   simp_all
theorem f61_ex(n:Int): ∃r,f61 n=some r/\(r.2=0->0<=n/\n<=4608/\(kr r.1:Int)=n/\ ∀s∈r.1,s∈gF):=by
 unfold f61;by_cases h1:n<0
 ·simp_all
 by_cases h2:4608<n
 ·simp_all
 obtain⟨m,rfl⟩: ∃m:Nat,n=(m:Int):=⟨n.toNat,by omega⟩;have w1:wr ((m:Int)+1)=((m+1:Nat):Int):=iz (by omega);have n1:(0:Int)<=((m+1:Nat):Int):=by omega
 have n2:((m+1:Nat):Int)<=(bc:Int):=by unfold bc;omega
 simp only[h1,h2,fZ,dv,f115_eq,cN,w1,cQ n1,cQ n2,wb];refine eF (λk(s:List Int×Int)=>s.2=((k+1:Nat):Int)/\AR s.1 m k) (λT=>AR T m m) m (by omega) ⟨rfl,?_⟩ ?_ ?_ ?_
 ·refine⟨by simp,by simp,λk hk e he=>?_,λk hk hk2=>by omega,λk hk s hs ht=>?_⟩
  all_goals grind
 ·rintro k ⟨T,s2⟩ hk ⟨e0,hT⟩;simp only at e0 hT;subst e0;have c1:((k+1:Nat):Int)<=(m:Int):=by omega
  have dK:=hT.len;have x1:T[k+1]? =some (T[k+1]'(by omega)):=dF _;obtain⟨r,k1,k2⟩:=hT.step hk (by omega);simp only[c1,ju,cP,bT x1,cN,k1];rw[iz (by omega)]
  grind
 ·grind
 ·intro T hT;have dK:=hT.len;have x1:T[m]? =some (T[m]'(by omega)):=dF _;generalize T[m]'(by omega)=e at x1;simp only[bT x1,cN];by_cases c1:e<0
  ·simp_all
  ·obtain⟨r,k1,k2,k3⟩:=f117_ex T m hT (by omega) cr m 768 [] (by grind) (fw _) (by simp;omega);have k1:f117 (m:Int) 768 gF T []=some r:=k1;simp only[c1,fZ,dv,k1,cN]
   grind [OI]
theorem f108_in(a lo hi:Int):f108 a lo hi=some (pB a lo hi):=f108_eq a lo hi
structure od (h:eE):Prop where
 n1:1<=h.low.length
 n4:h.low.length<=4
 hi:h.high.length=h.low.length
 ba:h.gb.length=h.low.length
 el: ∀(i:Nat)a b,h.low[i]? =some a->h.high[i]? =some b->0<=a/\a<=b/\b<=8
 t1:1<=h.top
 t2:h.top<=18
 j1:0<=h.jump
 j2:h.jump<=18
 ws: ∀x∈[h.shift,h.lift,h.kJ,h.eu,h.gD],0<=x/\x<=1000
theorem f109_ex(l:List Int)(hs:ck l): ∃b,f109 l=some b/\True:=by
 have vx:l.length<=4194304:=hs;unfold f109;refine eF (λk(s:Int)=>s=(l.length:Int)-1-k) (λ_=>True) l.length hs (by grind [jx]) ?_ ?_ ?_
 ·intro k s hk hi;subst hi;by_cases h:0<(l.length:Int)-1-k
  ·have e1:l[l.length-1-k]? =some (l[l.length-1-k]'(by omega)):=dF _;have e2:l[l.length-2-k]? =some (l[l.length-2-k]'(by omega)):=dF _;have w:wr ((l.length:Int)-1-k-1)=((l.length-2-k:Nat):Int):=by grind [jx]
   have i1:ix l ((l.length:Int)-1-k)=some (l[l.length-1-k]'(by omega)):=U2 (l.length-1-k) (by omega) e1;simp only[h,ju,cP,i1,w,bT e2,cN,f160,f152];simp only[qd,qe,fZ,dv,cN];cases decide (l[l.length-1-k]'(by omega)<l[l.length-2-k]'(by omega))
   all_goals grind
  ·simp only[h,fZ,dv]
   grind
 ·intro s hi;subst hi
  grind
 ·intro r _;cases r<;>exact⟨_,rfl,trivial⟩
theorem f59_ex(h:eE): ∃r,f59 h=some r/\(r=0->od h):=by
 unfold f59;simp only[f108_in];refine iF (P1:=λj=>j=false->pB (h.low.length:Int) 1 4=true/\h.high.length=h.low.length/\h.gb.length=h.low.length) ?_ ?_
 ·simp only[cN];cases h1:pB (h.low.length:Int) 1 4
  ·simp_all
  ·by_cases h2:h.high.length=h.low.length
   ·have e:((h.high.length:Int)≠(h.low.length:Int))=False:=by simp[h2]
    simp only[pV,dv,e,fZ]
    grind
   ·have e:((h.high.length:Int)≠(h.low.length:Int))=True:=by simp;omega
    simp_all
 intro j hj;cases j
 case true=>grind
 obtain⟨n1,n2,n3⟩:=hj rfl;simp only[pB,eU,BW]at n1;simp only[dv];refine eF (λk(s:Int)=>s=(k:Int)/\ ∀(i:Nat)a b,i<k->h.low[i]? =some a->h.high[i]? =some b->0<=a/\a<=b/\b<=8) (λo=>match o with
  |.inl _=> ∀(i:Nat)a b,h.low[i]? =some a->h.high[i]? =some b->0<=a/\a<=b/\b<=8
  |.inr z=>z≠0) h.low.length (by omega) ⟨rfl,λi a b hi=>by omega⟩ ?_ ?_ ?_
 ·rintro k s hk ⟨rfl,hi⟩;have e1:h.low[k]? =some (h.low[k]'hk):=dF _;have e2:h.high[k]? =some (h.high[k]'(by omega)):=dF _;generalize h.low[k]'hk=a at e1;generalize h.high[k]'(by omega)=b at e2;simp only[cy e1,cP,bT e1,bT e2,cN,dp (l:=h.low) (by grind) e1];by_cases c1:a<0
  ·simp_all
  by_cases c2:b<a
  ·simp_all
  by_cases c3:8<b
  ·simp_all
  simp only[c1,c2,c3,ju,fZ,cP,dv,cN]
  grind
 ·rintro s ⟨rfl,hi⟩
  grind
 intro o ho;cases o
 case inr=>simp_all
 simp only[BX];refine iF (P1:=λj=>j=false->1<=h.top/\h.top<=18/\0<=h.jump/\h.jump<=18) ?_ ?_
 ·refine iF (P1:=λ_=>True) (f109_ex h.low (by grind)) λb1 _=>XT (λ_=>⟨_,rfl,λh=>by cases h⟩) λ_=>
   iF (P1:=λ_=>True) (f109_ex h.high (by grind)) λb2 _=>XT (λ_=>⟨_,rfl,λh=>by cases h⟩) λ_=>?_
  simp only[cN];cases h3:pB h.top 1 18
  ·simp_all
  ·refine⟨_,rfl,λh4=>?_⟩;simp only[pB,eU,BW,zD4]at h3 h4;omega
 intro j hj;cases j
 case true=>grind
 obtain⟨t1,t2,j1,j2⟩:=hj rfl;simp only[dv];refine eF (λk(s:Int)=>s=(k:Int)/\ ∀x∈[h.shift,h.lift,h.kJ,h.eu,h.gD].take k,0<=x/\x<=1000) (λo=>match o with
  |.inl _=> ∀x∈[h.shift,h.lift,h.kJ,h.eu,h.gD],0<=x/\x<=1000
  |.inr z=>z≠0) 5 (by omega) ⟨rfl,λx hx=>by simp at hx⟩ ?_ ?_ ?_
 ·rintro k s hk ⟨rfl,hi⟩;generalize hL:[h.shift,h.lift,h.kJ,h.eu,h.gD]=L at hi;have hl:L.length=5:=by subst hL;rfl
  have e1:L[k]? =some (L[k]'(by omega)):=dF _;generalize L[k]'(by omega)=x at e1;have c:(k:Int)<5:=by omega
  simp only[c,ju,cP,bT e1,cN];rw[iz (by omega)];cases h3:pB x 0 1000
  ·simp_all
  ·refine .inl ⟨_,rfl,rfl,λy hy=>?_⟩;rw[cz e1,oq]at hy;rcases hy with hy|hy
   ·exact hi y hy
   ·simp at hy;subst hy;simpa[pB]using h3
 ·simp_all
 intro o ho;cases o
 case inr=>simp_all
 exact⟨0,rfl,λ_=>⟨by omega,by omega,n2,n3,by assumption,t1,t2,j1,j2,ho⟩⟩
def mP(x:Int)(p:aQ):Bool:=decide (p.aW=x)
theorem f309_1_eq(l:List aQ)(x:Int)(hs:ck l):f309_1 l x=some (gX (mP x) l):=by
 unfold f309_1;rw[eg l (mP x) (λi _=>(i:Int)) hs]
 ·simp only[cN,fH,gX]
  grind
 ·intro i y hy;simp only[cy hy,cP,bT hy,cN,f341,mP]
  grind
 ·simp
theorem f319_eq(c:bK)(x:Int)(hs:ck c.cA):f319 c x=some (gX (mP x) c.cA):=by
 unfold f319;grind [f309_1_eq]
theorem f221_eq(l:List aQ)(x:Int)(hs:ck l):f221 l x=some (l.any (mP x)):=by
 unfold f221 f275 f309;rw[eg l (mP x) (λi _=>(i:Int)) hs]
 ·simp only[cN,fH];rw[<-gJ];unfold gX;cases l.findIdx? _<;>simp
 ·intro i y hy;simp only[cy hy,cP,bT hy,cN,f276,mP]
  grind
 ·simp
theorem xG{α:Type}{p:α->Bool}{l:List α}:decide (gX p l<0)=!(l.any p):=by
 rw[<-gJ]
 grind
theorem rO{α:Type}{p:α->Bool}{l:List α}(h:l.any p=true): ∃(k:Nat)(x:α),gX p l=(k:Int)/\l[k]? =some x/\p x=true:=by
 unfold gX;cases hf:l.findIdx? p with
 |none=>
  grind
 |some k=>
  grind [List.findIdx?_eq_some_iff_getElem]
def HQ(l:List Int):Prop:= ∀(i:Nat)a b,l[i]? =some a->l[i+1]? =some b->a<b
theorem f318_ex(l:List Int)(hs:ck l): ∃b,f318 l=some b/\(b=true↔HQ l):=by
 have vx:l.length<=4194304:=hs;unfold f318;refine eF (λk(s:Int)=>s=((k+1:Nat):Int)/\ ∀(i:Nat)a b,i<k->l[i]? =some a->l[i+1]? =some b->a<b) (λo=>match o with
  |.inl _=>HQ l
  |.inr b=>b=false/\ ¬HQ l) (l.length-1) (by omega) ⟨rfl,λi a b h=>by omega⟩ ?_ ?_ ?_
 ·rintro k s hk ⟨rfl,hi⟩;have e1:l[k+1]? =some (l[k+1]'(by omega)):=dF _;have e2:l[k]? =some (l[k]'(by omega)):=dF _;have w:wr (((k+1:Nat):Int)-1)=(k:Int):=by grind [jx]
  simp only[cy e1,cP,bT e1,w,bT e2,cN];rw[iz (by omega)];by_cases c:l[k+1]'(by omega)<=l[k]'(by omega)
  ·simp only[c,ju,cP];exact .inr ⟨_,rfl,rfl,λh=>by have:=h k _ _ e2 e1;omega⟩
  ·simp only[c,fZ,dv]
   grind
 ·rintro s ⟨rfl,hi⟩;have c: ¬(((l.length-1+1:Nat):Int)<(l.length:Int)):=by omega
  simp only[c,fZ,dv];refine⟨_,rfl,λi a b ha hb=>hi i a b ?_ ha hb⟩
  grind
 intro o ho;cases o with
 |inl _=>simp_all
 |inr b=>
  simp_all
structure gy (c:bK):Prop where
 da: ∀(i:Nat)p q,c.cA[i]? =some p->c.cA[i+1]? =some q->p.aW<q.aW
 dc: ∀p∈c.cA,1<=p.aW/\p.aW<=14/\1<=p.ct/\p.ct<=18
 ha:HQ c.held
 oa:HQ c.cY
 hd: ∀x∈c.held,c.cA.any (mP x)=true
 oo: ∀x∈c.cY,1<=x/\x<=14/\c.cA.any (mP x)=false
theorem f278_ex(c:bK)(s1:ck c.cA)(s2:ck c.held)(s3:ck c.cY): ∃b,f278 c=some b/\(b=true↔gy c):=by
 have s1':c.cA.length<=4194304:=s1;have s2':c.held.length<=4194304:=s2;have s3':c.cY.length<=4194304:=s3;unfold f278;refine eF (λk(s:Int×Int)=>s=((c.cA[k-1]?.map aQ.aW).getD 0*(if k=0 then 0 else 1),(k:Int))/\(∀p∈c.cA.take k,1<=p.aW/\p.aW<=14/\1<=p.ct/\p.ct<=18)/\
   ∀(i:Nat)p q,i+1<k->c.cA[i]? =some p->c.cA[i+1]? =some q->p.aW<q.aW) (λo=>match o with
  |.inl _=>(∀(i:Nat)p q,c.cA[i]? =some p->c.cA[i+1]? =some q->p.aW<q.aW)/\ ∀p∈c.cA,1<=p.aW/\p.aW<=14/\1<=p.ct/\p.ct<=18
  |.inr b=>b=false/\ ¬gy c) c.cA.length s1' ⟨by simp,λp hp=>by simp at hp,λi p q h=>by omega⟩ ?_ ?_ ?_
 ·rintro k s hk ⟨rfl,h1,h2⟩;have e1:c.cA[k]? =some (c.cA[k]'hk):=dF _;generalize c.cA[k]'hk=y at e1;simp only[cy e1,cP,bT e1,cN,dp s1 e1,f108_in];generalize hL:(c.cA[k-1]?.map aQ.aW).getD 0*(if k=0 then 0 else 1)=L;by_cases c1:y.aW<=L
  ·simp only[c1,ju,cP,cN];refine .inr ⟨_,rfl,rfl,λhr=>?_⟩;by_cases hk0:k=0
   ·subst hk0;simp at hL;subst hL;have:=hr.dc y (gN e1);omega
   ·have e2:c.cA[k-1]? =some (c.cA[k-1]'(by omega)):=dF _;rw[e2]at hL;simp[hk0]at hL;have:=hr.da (k-1) _ y e2 (by grind);omega
  by_cases c2:14<y.aW
  ·simp only[c1,c2,ju,fZ,cP,dv,cN];refine .inr ⟨_,rfl,rfl,λhr=>?_⟩;have:=hr.dc y (gN e1);omega
  cases c3:pB y.ct 1 18
  ·simp only[c1,c2,fZ,dv,cN,LI,cP];refine .inr ⟨_,rfl,rfl,λhr=>?_⟩;have:=hr.dc y (gN e1);simp[pB]at c3;omega
  ·simp only[c1,c2,fZ,dv,cN,pV];simp only[pB,eU,BW]at c3;have hL0:0<=L:=by
    grind [List.mem_take_iff_getElem]
   refine .inl ⟨_,rfl,?_,λp hp=>?_,λi p q hi hp hq=>?_⟩
   ·grind
   ·rw[cz e1,oq]at hp
    grind
   grind
 ·rintro s ⟨rfl,h1,h2⟩
  grind
 intro o ho;cases o with
 |inr b=>simp_all
 |inl _=>
 obtain⟨d1,d2⟩:=ho;simp only[BX];refine iF (P1:=λj=>j=false↔(HQ c.held/\HQ c.cY)) ?_ ?_
 ·refine iF (f318_ex c.held s2) λb1 h1=>?_;cases b1
  ·simp_all
  ·refine iF (f318_ex c.cY s3) λb2 h2=>⟨!b2,rfl,?_⟩
   grind
 intro j hj;cases j
 case true=>
  refine⟨false,rfl,?_⟩;simp at hj;simp;exactλh=>hj h.ha h.oa
 obtain⟨a1,a2⟩:=hj.1 rfl;simp only[dv];refine eF (λk(s:Int)=>s=(k:Int)/\ ∀x∈c.held.take k,c.cA.any (mP x)=true) (λo=>match o with
  |.inl _=> ∀x∈c.held,c.cA.any (mP x)=true
  |.inr b=>b=false/\ ¬gy c) c.held.length s2' ⟨rfl,λp hp=>by simp at hp⟩ ?_ ?_ ?_
 ·rintro k s hk ⟨rfl,h1⟩;have e1:c.held[k]? =some (c.held[k]'hk):=dF _;generalize c.held[k]'hk=y at e1;simp only[cy e1,cP,bT e1,cN,dp s2 e1,f319_eq c _ s1,xG];cases c1:c.cA.any (mP y)
  ·exact .inr ⟨_,rfl,rfl,λhr=>by have:=hr.hd y (gN e1);grind⟩
  ·refine .inl ⟨_,rfl,rfl,λp hp=>?_⟩;rw[cz e1,oq]at hp
   grind
 ·simp_all
 intro o ho;cases o with
 |inr b=>simp_all
 |inl _=>
 simp only[BX];refine eF (λk(s:Int)=>s=(k:Int)/\ ∀x∈c.cY.take k,1<=x/\x<=14/\c.cA.any (mP x)=false) (λo=>match o with
  |.inl _=> ∀x∈c.cY,1<=x/\x<=14/\c.cA.any (mP x)=false
  |.inr b=>b=false/\ ¬gy c) c.cY.length s3' ⟨rfl,λp hp=>by simp at hp⟩ ?_ ?_ ?_
 ·rintro k s hk ⟨rfl,h1⟩;have e1:c.cY[k]? =some (c.cY[k]'hk):=dF _;generalize c.cY[k]'hk=y at e1;simp only[cy e1,cP,bT e1,cN,dp s3 e1,f108_in,f319_eq c _ s1,gJ];cases c0:pB y 1 14
  ·refine .inr ⟨_,rfl,rfl,λhr=>?_⟩;have:=hr.oo y (gN e1);simp[pB]at c0;omega
  cases c1:c.cA.any (mP y)
  ·refine .inl ⟨_,rfl,rfl,λp hp=>?_⟩;rw[cz e1,oq]at hp;rcases hp with hp|hp
   ·exact h1 p hp
   ·simp at hp;subst hp;simp[pB]at c0
    grind
  ·exact .inr ⟨_,rfl,rfl,λhr=>by have:=hr.oo y (gN e1);grind⟩
 ·simp_all
 intro o h3;cases o with
 |inr b=>simp_all
 |inl _=>exact⟨true,rfl,by simp;exact⟨d1,d2,a1,a2,ho,h3⟩⟩
theorem f342_eq(l:List Int)(x:Int)(hs:ck l):f342 l x=some (gX (λy=>decide (x=y)) l):=by
 unfold f342;rw[eg l (λy=>decide (x=y)) (λi _=>(i:Int)) hs]
 ·simp only[cN,fH,gX]
  grind
 ·intro i y hy;simp only[cy hy,cP,bT hy,cN]
  grind
 ·simp
theorem f343_eq(l:List Int)(a b:Int)(hs:ck l):f343 l a b=some (l.any λx=>decide (a<x)&&decide (x<b)):=by
 unfold f343 f350;rw[eg l (λx=>decide (a<x)&&decide (x<b)) (λi _=>(i:Int)) hs]
 ·simp only[cN,fH];rw[<-gJ];unfold gX;cases l.findIdx? _<;>simp
 ·intro i y hy;simp only[cy hy,cP,bT hy,cN,f344]
  grind
 ·simp
theorem f275_1_eq(l:List aQ)(a:Int)(hs:ck l):f275_1 l a=some (l.any λx=>decide (x.ct<a)):=by
 unfold f275_1 f309_2;rw[eg l (λx:aQ=>decide (x.ct<a)) (λi _=>(i:Int)) hs]
 ·simp only[cN,fH];rw[<-gJ];unfold gX;cases l.findIdx? _<;>simp
 ·intro i y hy;simp only[cy hy,cP,bT hy,cN,f345]
  grind
 ·simp
theorem Lq{α:Type}{p:α->Bool}{l:List α}{k:Nat}{x:α}(hx:l[k]? =some x)(hp:p x=true):0<=gX p l/\gX p l<=(k:Int):=by
 have ha:l.any p=true:=F5.2 ⟨x,gN hx,hp⟩;obtain⟨j,y,h1,h2,h3⟩:=rO ha;rw[h1];refine⟨by omega,?_⟩;by_cases hjk:j<=k
 ·omega
 ·exfalso;unfold gX at h1
  grind [List.findIdx?_eq_some_iff_getElem]
theorem f321_ex(h:eE)(c:bK)(fs:List Int)(hn:h.low.length<=4)(hb:h.gb.length=h.low.length)(hl:fs.length=c.cA.length)(hs:ck c.cA)(ho:ck c.cY):
  ∃b,f321 h c fs=some b/\(fs.length<=1->b=true):=by
 have vx:c.cA.length<=4194304:=hs;have hf:ck fs:=by grind
 unfold f321;refine eF (λk(s:Int)=>s=((k+1:Nat):Int)) (λo=>fs.length<=1->o=.inl ()) h.low.length (by omega) rfl ?_ ?_ ?_
 ·rintro k s hk rfl;have c0:((k+1:Nat):Int)<=(h.low.length:Int):=by omega
  simp only[c0,ju,cP,f342_eq fs _ hf,cN,xG];rw[iz (by omega)];cases ha:fs.any (λy=>decide (((k+1:Nat):Int)=y))
  ·simp_all
  obtain⟨j,y,h1,h2,h3⟩:=rO ha;have h3:=Wp h3;subst h3;have hj:=(lf.1 h2).1;simp only[h1,pV,dv];have key: ∃m:Nat,bO (σ:=(Int×Int)) (τ:=Int) (λ((OK,uO):(Int×Int))=>bif (decide (uO<(fs.length:Int)))then((((ix fs uO).bind λy5=>bif (decide (y5=((k+1:Nat):Int)))then(some uO)else(some OK)):Option Int).bind λ(zS:Int)=>some (.inl (zS,(wr (uO+1)))))else(some (.inr OK))) cr ((j:Int),0)=some (m:Int)/\j<=m/\m<fs.length:=by
   have:=jt (body:=λ((OK,uO):(Int×Int))=>bif (decide (uO<(fs.length:Int)))then((((ix fs uO).bind λy5=>bif (decide (y5=((k+1:Nat):Int)))then(some uO)else(some OK)):Option Int).bind λ(zS:Int)=>some (.inl (zS,(wr (uO+1)))))else(some (.inr OK)))
    (λn(s:Int×Int)=>s.2=(n:Int)/\ ∃m:Nat,s.1=(m:Int)/\j<=m/\m<fs.length) (λr=> ∃m:Nat,r=(m:Int)/\j<=m/\m<fs.length) fs.length (s0:=((j:Int),0)) hf ⟨rfl,j,rfl,fw _,hj⟩ ?_ ?_
   ·grind
   ·rintro n ⟨s1,s2⟩ hn ⟨e1,m,e2,e3,e4⟩;simp only at e1 e2;subst e1;subst e2;have g1:fs[n]? =some (fs[n]'hn):=dF _;generalize fs[n]'hn=z at g1;simp only[cy g1,cP,bT g1,cN,dp hf g1];by_cases hz:z=((k+1:Nat):Int)
    ·simp only[hz,ju,cP,cN];refine .inl ⟨_,rfl,rfl,n,rfl,?_,hn⟩;have:=Lq (p:=λy=>decide (((k+1:Nat):Int)=y)) g1 (by simp[hz])
     grind
    ·simp only[hz,fZ,dv,cN];exact .inl ⟨_,rfl,rfl,m,rfl,e3,e4⟩
   grind
  obtain⟨m,k1,k2,k3⟩:=key;simp only[k1,cN];by_cases hjm:j=m
  ·simp_all
  have c2: ¬((j:Int)=(m:Int)):=by omega
  have hgt: ¬fs.length<=1:=by omega
  have b1:h.gb[k]? =some (h.gb[k]'(by omega)):=dF _;have w:wr (((k+1:Nat):Int)-1)=(k:Int):=by grind [jx]
  have d1:c.cA[j]? =some (c.cA[j]'(by omega)):=dF _;have d2:c.cA[m]? =some (c.cA[m]'(by omega)):=dF _;simp only[c2,fZ,dv,w,bT b1,bT d1,bT d2,cN,f343_eq _ _ _ ho];have n1:(0:Int)<=(j:Int):=by omega
  have n2:(0:Int)<=(m:Int):=by omega
  have n3:((j:Int)).toNat<=((m:Int)).toNat:=by omega
  have n4:((m:Int)).toNat<=c.cA.length:=by omega
  have FB:ck ((c.cA.take ((m:Int)).toNat).drop ((j:Int)).toNat):=by grind
  simp only[cQ n1,cQ n2,cQ n3,cQ n4,f275_1_eq _ _ FB,cN];generalize h.gb[k]'(by omega)=x1;generalize decide ((c.cA[j]'(by omega)).ct≠(c.cA[m]'(by omega)).ct)=x2;generalize(c.cY.any λx=>_)=x3;generalize(List.any _ λx:aQ=>_)=x4;cases x1
  ·simp_all
  cases x2
  ·cases x3
   ·cases x4
    all_goals simp_all
   simp_all
  simp_all
 ·rintro s rfl
  grind
 ·intro o ho;cases o with
  |inl _=>simp_all
  |inr b=>exact⟨b,rfl,λh=>by grind⟩
theorem f321_one: @f321_1= @f321:=rfl
def vW(h:eE)(pos f ct:Int):Bool:=match h.low[(f-1).toNat]?,h.high[(f-1).toNat]? with
 |some a,some b=>pB ct (wr (pos+a)) (wr (pos+b))
 |_,_=>false
theorem f322_eq(h:eE)(hh:od h)(pos f ct:Int)(h1:1<=f)(h2:f<=h.low.length):f322 h pos f ct=some (vW h pos f ct):=by
 have hi:=hh.hi;have h4:=hh.n4;have e:wr (f-1)=(((f-1).toNat:Nat):Int):=by grind [jx]
 have e1:h.low[(f-1).toNat]? =some (h.low[(f-1).toNat]'(by omega)):=dF _;have e2:h.high[(f-1).toNat]? =some (h.high[(f-1).toNat]'(by omega)):=dF _;unfold f322 vW;simp only[e,bT e1,bT e2,e1,e2,cN,f108_in]
def oe(p q:aQ)(f g:Int):Bool:=if p.ct<q.ct then decide (f<g)else if q.ct<p.ct then decide (g<f)else if p.aW<q.aW then decide (g<=f)else decide (f<=g)
theorem f323_eq(p q:aQ)(f g:Int):f323 p q f g=some (oe p q f g):=by
 unfold f323 oe
 grind
structure FD (h:eE) (c:bK) (pos:Int) (fs:List Int):Prop where
 len:fs.length<=c.cA.length
 fit: ∀(i:Nat)f p,fs[i]? =some f->c.cA[i]? =some p->1<=f/\f<=h.low.length/\vW h pos f p.ct=true
 agr: ∀(i j:Nat)f g p q,i<j->fs[i]? =some f->fs[j]? =some g->c.cA[i]? =some p->c.cA[j]? =some q->oe p q f g=true
structure Fit (h:eE) (c:bK) (g:b9):Prop where
 p1:1<=g.pos
 p2:g.pos<=h.top
 len:g.di.length=c.cA.length
 fit:FD h c g.pos g.di
 sp:f321 h c g.di=some true
theorem f64_1_eq(l:List Int)(h:ck l):f64_1 l=some l:=by
 unfold f64_1;by_cases c:l=[]
 ·subst c;simp
 ·have:l.length<=bc:=by simp only[ck]at h;unfold bc;omega
  grind [cQ]
theorem OL:4194304<cr:=by grind
theorem FD.snoc{h:eE}{c:bK}{pos:Int}{fs:List Int}{f:Int}{p:aQ}(hf:FD h c pos fs)(hp:c.cA[fs.length]? =some p)(h1:1<=f)(h2:f<=h.low.length)(h3:vW h pos f p.ct=true)
  (h4: ∀(i:Nat)g q,fs[i]? =some g->c.cA[i]? =some q->oe q p g f=true):FD h c pos (fs++[f]):=by
 have kc:=(lf.1 hp).1;refine⟨by simp;omega,λi g q hg hq=>?_,λi j g1 g2 q1 q2 sL e1 e2 e3 e4=>?_⟩
 ·by_cases hi:i<fs.length
  ·rw[Aq hi]at hg;exact hf.fit i g q hg hq
  grind
 ·have hl:=(lf.1 e2).1;simp at hl;have hi:i<fs.length:=by omega
  rw[Aq hi]at e1;by_cases hj:j<fs.length
  ·rw[Aq hj]at e2;exact hf.agr i j g1 g2 q1 q2 sL e1 e2 e3 e4
  grind
theorem f320_ex(h:eE)(hh:od h)(c:bK)(pos:Int)(U5:1<=pos)(hp2:pos<=h.top)(hd:c.cA.length<=14)(ho:ck c.cY): ∀(fu:Nat)(fs:List Int)(l:List b9),FD h c pos fs->c.cA.length-fs.length<fu->
  l.length<=201->(fs.length=c.cA.length->l.length<=200)->
  ∃r,f320r fu pos fs c h l=some r/\(r.1=fs/\ ∃m,r.2=l++m/\(l++m).length<=201/\ ∀g∈m,g.pos=pos/\Fit h c g)
 |0,fs,l,hf,hu,hl,HR=>by omega
 |fu+1,fs,l,hf,hu,hl,HR=>by
  have dK:=hf.len;have hsd:ck c.cA:=by grind
  have hsf:ck fs:=by grind
  have hn4:=hh.n4;unfold f320r;by_cases he:fs.length=c.cA.length
  ·have e:decide ((fs.length:Int)=(c.cA.length:Int))=true:=by simp[he]
   simp only[e,cP];obtain⟨b,hb,_⟩:=f321_ex h c fs hn4 hh.ba he hsd ho;have HR:=HR he;have m1:l.length+1<=bc:=by unfold bc;omega
   simp only[hb,cN,f64_1_eq fs hsf,cQ m1];cases b
   ·simp_all
   ·refine⟨_,rfl,rfl,[⟨pos,fs⟩],rfl,by simp;omega,λg hg=>?_⟩;simp at hg;subst hg;exact⟨rfl,U5,hp2,he,hf,hb⟩
  ·have e:decide ((fs.length:Int)=(c.cA.length:Int))=false:=by simp;omega
   simp only[e,dv];have kc:fs.length<c.cA.length:=by omega
   have p0:c.cA[fs.length]? =some (c.cA[fs.length]'kc):=dF _;generalize c.cA[fs.length]'kc=p at p0;refine eF (λk(s:List Int×List b9×Int)=>s.1=fs/\s.2.2=((k+1:Nat):Int)/\ ∃m,s.2.1=l++m/\(l++m).length<=201/\ ∀g∈m,g.pos=pos/\Fit h c g)
    (λr=>r.1=fs/\ ∃m,r.2=l++m/\(l++m).length<=201/\ ∀g∈m,g.pos=pos/\Fit h c g) h.low.length (by omega) ⟨rfl,rfl,[],by simp,by grind,λg hg=>by simp at hg⟩ ?_ ?_ ?_
   ·rintro k ⟨s1,s2,s3⟩ hk ⟨e1,e2,m,e3,Rl,X3⟩;simp only at e1 e2 e3;subst e1;subst e2;subst e3;have c0:((k+1:Nat):Int)<=(h.low.length:Int):=by omega
    simp only[c0,ju,cP,cN];by_cases c1:((l++m).length:Int)<=200
    ·simp only[c1,ju,cP,bT p0,cN,f322_eq h hh pos _ p.ct (show 1<=((k+1:Nat):Int)by omega) c0];rw[iz (by omega)];cases hr:vW h pos ((k+1:Nat):Int) p.ct
     ·simp_all
     simp only[pV,dv];have key: ∃o,bO (σ:=Int) (τ:=(Unit⊕(List Int×List b9))) (λ(Jw:Int)=>bif (decide (Jw<(s1.length:Int)))then((ix s1 Jw).bind λOE=>(ix c.cA Jw).bind λSQ=>(f323 SQ p OE ((k+1:Nat):Int)).bind λr14=>bif (!r14)then(some (.inr (.inr (s1,l++m))))else(some (.inl (wr (Jw+1)))))else(some (.inr (.inl ())))) cr 0=some o/\
       (match o with
        |.inl _=> ∀(i:Nat)g q,s1[i]? =some g->c.cA[i]? =some q->oe q p g ((k+1:Nat):Int)=true
        |.inr x=>x=(s1,l++m)):=by
      refine jt (λn(s:Int)=>s=(n:Int)/\ ∀(i:Nat)g q,i<n->s1[i]? =some g->c.cA[i]? =some q->oe q p g ((k+1:Nat):Int)=true) _ s1.length hsf ⟨rfl,λi g q h=>by omega⟩ ?_ ?_
      ·rintro n s hn ⟨rfl,hi⟩;have g1:s1[n]? =some (s1[n]'hn):=dF _;have g2:c.cA[n]? =some (c.cA[n]'(by omega)):=dF _;simp only[cy g1,cP,bT g1,bT g2,cN,dp hsf g1,f323_eq];cases ha:oe (c.cA[n]'(by omega)) p (s1[n]'hn) ((k+1:Nat):Int)
       ·simp_all
       ·refine .inl ⟨_,rfl,rfl,λi g q ga hg hq=>?_⟩
        grind
      simp_all[lf]
     obtain⟨o,k1,k2⟩:=key;simp only[k1,cN];cases o with
     |inr x=>
      grind
     |inl _=>
      simp only at k2;have m1:s1.length+1<=bc:=by unfold bc;omega
      have hpf:=hf.snoc p0 (f:=((k+1:Nat):Int)) (by omega) c0 hr k2;obtain⟨r,r1,r2,m',r3,r4,r5⟩:=f320_ex h hh c pos U5 hp2 hd ho fu (s1++[((k+1:Nat):Int)]) (l++m) hpf (by simp;omega) Rl (λ_=>by omega);have n1:(0:Int)<=(s1.length:Int):=by omega
      have n2:((s1.length:Int)).toNat<=r.1.length:=by rw[r2];simp
      simp only[BX,cQ m1,r1,cN,cQ n1,cQ n2];refine .inl ⟨_,rfl,?_,rfl,m++m',by rw[r3];simp,by grind,λg hg=>?_⟩
      ·rw[r2];simp
      grind
    ·simp only[c1,fZ,dv];simp_all
   ·rintro⟨s1,s2,s3⟩ ⟨e1,e2,m,e3,Rl,X3⟩;simp only at e1 e2 e3;subst e1;subst e2;subst e3;have c0: ¬(((h.low.length+1:Nat):Int)<=(h.low.length:Int)):=by omega
    simp only[c0,fZ,dv,cN];simp_all
   simp_all
theorem zT(h:eE)(c:bK)(pos:Int):FD h c pos []:=⟨by simp,λi f p h=>by simp at h,λi j f g p q _ h=>by simp at h⟩
theorem f279_ex(h:eE)(hh:od h)(c:bK)(hd:c.cA.length<=14)(ho:ck c.cY): ∃l,f279 h c=some l/\(l.length<=201/\ ∀g∈l,Fit h c g):=by
 have t2:=hh.t2;have t1:=hh.t1;unfold f279;refine eF (λk(s:List b9×List Int×Int)=>s.2.1=[]/\s.2.2=((k+1:Nat):Int)/\s.1.length<=201/\(c.cA.length=0->s.1.length<=k)/\ ∀g∈s.1,Fit h c g) (λl=>l.length<=201/\ ∀g∈l,Fit h c g) h.top.toNat (by omega) ⟨rfl,rfl,by simp,λ_=>by simp,λg hg=>by simp at hg⟩ ?_ ?_ ?_
 ·rintro k ⟨s1,s2,s3⟩ hk ⟨e1,e2,h1,h2,h3⟩;simp only at e1 e2 h1 h2 h3;subst e1;subst e2;have c0:((k+1:Nat):Int)<=h.top:=by omega
  have hb:=OL;by_cases hz:c.cA.length=0
  ·have e0:c.cA=[]:=Py hz;obtain⟨b,hb,yi⟩:=f321_ex h c [] hh.n4 hh.ba (by simp[e0]) (by grind) ho;have yi:=yi (by simp);subst yi;have m1:s1.length+1<=bc:=by unfold bc;omega
   have hF:cr=(cr-1)+1:=by omega
   have KQ:(([]:List Int).length:Int)=(c.cA.length:Int):=by simp[e0]
   simp only[c0,ju,cP,f320];rw[hF];simp only[f320r,KQ,ju,cP,hb,cN,f64_1_eq [] (by simp[ck]),cQ m1];rw[iz (by omega)];refine .inl ⟨_,rfl,rfl,rfl,by grind,λ_=>by grind,λg hg=>?_⟩;rcases oq.1 hg with hg|hg
   ·exact h3 g hg
   ·simp at hg;subst hg;exact⟨by grind,c0,by simp[e0],zT h c _,hb⟩
  ·obtain⟨r,r1,r2,m,r3,r4,r5⟩:=f320_ex h hh c ((k+1:Nat):Int) (by omega) c0 hd ho cr [] s1 (zT h c _) (by omega) h1 (λh=>by grind);simp only[c0,ju,cP,f320,r1,cN];rw[iz (by omega)]
   grind
 all_goals grind
theorem FE(p q:aQ):jo p q=decide (p=q):=by
 unfold jo;cases p;cases q
 grind
theorem f282_ex(h:eE)(hh:od h)(c:bK)(g:b9)(hd:ck c.cA)(hf:ck g.di)(ho:ck c.cY): ∃b,f282 h c g=some b/\(b=true↔Fit h c g):=by
 have LL:c.cA.length<=4194304:=hd;have DJ:g.di.length<=4194304:=hf;unfold f282;refine iF (P1:=λj=>j=false↔(1<=g.pos/\g.pos<=h.top/\g.di.length=c.cA.length)) ?_ ?_
 ·simp only[f108_in,cN];cases h1:pB g.pos 1 h.top
  ·refine⟨true,rfl,?_⟩;simp[pB]at h1 |-
   grind
  ·refine⟨_,rfl,?_⟩;simp[pB]at h1 |-
   grind
 intro j hj;cases j
 case true=>exact⟨false,rfl,by simp at hj;simp;exactλhF=>hj hF.p1 hF.p2 hF.len⟩
 obtain⟨p1,p2,hl⟩:=hj.1 rfl;simp only[dv];refine eF (λk(s:Int)=>s=(k:Int)/\FD h c g.pos (g.di.take k)) (λo=>match o with
  |.inl _=>FD h c g.pos g.di
  |.inr b=>b=false/\ ¬Fit h c g) g.di.length DJ ⟨rfl,by grind [zT]⟩ ?_ ?_ ?_
 ·rintro k s hk ⟨rfl,hp⟩;have e1:g.di[k]? =some (g.di[k]'hk):=dF _;have e2:c.cA[k]? =some (c.cA[k]'(by omega)):=dF _;generalize g.di[k]'hk=f at e1;generalize c.cA[k]'(by omega)=p at e2;have hlk:(g.di.take k).length=k:=by simp;omega
  simp only[cy e1,cP,bT e1,cN,dp hf e1,f108_in];cases c1:pB f 1 (h.low.length:Int)
  ·simp only[LI,cP,cN];refine .inr ⟨_,rfl,rfl,λhF=>?_⟩;have:=hF.fit.fit k f p e1 e2;simp[pB]at c1;omega
  simp only[pB,eU,BW]at c1;simp only[pV,dv,bT e2,cN,f322_eq h hh g.pos f p.ct c1.1 c1.2];cases c2:vW h g.pos f p.ct
  ·simp only[LI,cP];exact .inr ⟨_,rfl,rfl,λhF=>by have:=(hF.fit.fit k f p e1 e2).2.2;grind⟩
  simp only[pV,dv];have key: ∃o,bO (σ:=Int) (τ:=(Unit⊕(Int⊕(Unit⊕Bool)))) (λ(Jx:Int)=>bif (decide (Jx<(k:Int)))then((ix c.cA Jx).bind λOE=>(ix g.di Jx).bind λGf=>(f323 OE p Gf f).bind λr15=>bif (!r15)then(some (.inr (.inr (.inr (.inr false)))))else(some (.inl (wr (Jx+1)))))else(some (.inr (.inl ())))) cr 0=some o/\
    (match o with
     |.inl _=> ∀(i:Nat)g' q,(g.di.take k)[i]? =some g'->c.cA[i]? =some q->oe q p g' f=true
     |.inr x=>x=.inr (.inr false)/\ ¬Fit h c g):=by
   refine jt (λn(s:Int)=>s=(n:Int)/\ ∀(i:Nat)g' q,i<n->(g.di.take k)[i]? =some g'->c.cA[i]? =some q->oe q p g' f=true) _ k (by omega) ⟨rfl,λi g q h=>by omega⟩ ?_ ?_
   ·rintro n s hn ⟨rfl,hi⟩;have g1:g.di[n]? =some (g.di[n]'(by omega)):=dF _;have g2:c.cA[n]? =some (c.cA[n]'(by omega)):=dF _;have c3:(n:Int)<(k:Int):=by omega
    simp only[c3,ju,cP,bT g1,bT g2,cN,dp hf g1,f323_eq];cases ha:oe (c.cA[n]'(by omega)) p (g.di[n]'(by omega)) f
    ·exact .inr ⟨_,rfl,rfl,λhF=>by have:=hF.fit.agr n k _ f _ p hn g1 e1 g2 e2;grind⟩
    ·refine .inl ⟨_,rfl,rfl,λi g' q ga hg hq=>?_⟩
     grind
   simp_all[lf]
  obtain⟨o,k1,k2⟩:=key;simp only[k1,cN];cases o with
  |inr x=>
   grind
  |inl _=>
   refine .inl ⟨_,rfl,rfl,?_⟩;rw[cz e1];exact hp.snoc (by grind) c1.1 c1.2 c2 k2
 ·rintro s ⟨rfl,hp⟩
  grind
 intro o ho2;cases o with
 |inr b=>simp_all
 |inl _=>
  obtain⟨b,hb,_⟩:=f321_ex h c g.di hh.n4 hh.ba hl hd ho;simp only[BX,f321_one,hb,cN];refine⟨b,rfl,λe=>by subst e;exact⟨p1,p2,hl,ho2,hb⟩,λhF=>?_⟩;have:=hF.sp
  grind
def mQ(a b:bK):Prop:= ∀x∈b.held,∃(i j:Nat)(p:aQ),gX (mP x) a.cA=(i:Int)/\gX (mP x) b.cA=(j:Int)/\a.cA[i]? =some p/\b.cA[j]? =some p
theorem f324_ex(a b:bK)(ha:ck a.cA)(hb:ck b.cA)(hh:ck b.held)(hr: ∀x∈b.held,b.cA.any (mP x)=true): ∃r,f324 a b=some r/\(r=true↔mQ a b):=by
 have hh':b.held.length<=4194304:=hh;unfold f324;refine eF (λk(s:Int)=>s=(k:Int)/\ ∀x∈b.held.take k,∃(i j:Nat)(p:aQ),gX (mP x) a.cA=(i:Int)/\gX (mP x) b.cA=(j:Int)/\a.cA[i]? =some p/\b.cA[j]? =some p) (λo=>match o with
  |.inl _=>mQ a b
  |.inr r=>r=false/\ ¬mQ a b) b.held.length hh' ⟨rfl,λx hx=>by simp at hx⟩ ?_ ?_ ?_
 ·rintro k s hk ⟨rfl,hi⟩;have e1:b.held[k]? =some (b.held[k]'hk):=dF _;generalize b.held[k]'hk=x at e1;have hm:=gN e1;simp only[cy e1,cP,bT e1,cN,dp hh e1,f319_eq a x ha,f319_eq b x hb,xG];obtain⟨j,q,j1,j2,j3⟩:=rO (hr x hm);cases c1:a.cA.any (mP x)
  ·simp only[LI,cP,cN];refine .inr ⟨_,rfl,rfl,λhF=>?_⟩;obtain⟨i,j',p,h1,_⟩:=hF x hm
   grind
  ·obtain⟨i,p,i1,i2,i3⟩:=rO c1;simp only[pV,dv,i1,j1,bT i2,bT j2,cN,FE];by_cases hpq:p=q
   ·subst hpq;simp only[ju,pV,dv];refine .inl ⟨_,rfl,rfl,λy hy=>?_⟩;rw[cz e1,oq]at hy
    grind
   ·simp only[hpq,fZ,LI,cP];refine .inr ⟨_,rfl,rfl,λhF=>?_⟩;obtain⟨i',j',p',h1,h2,h3,h4⟩:=hF x hm
    grind
 ·rintro s ⟨rfl,hi⟩;simp only[AX,fZ,dv];exact⟨_,rfl,λx hx=>hi x (by grind)⟩
 intro o ho;cases o with
 |inr r=>simp_all
 |inl _=>simp_all
structure kt (c:bK):Prop where
 d:ck c.cA
 h:ck c.held
 o:ck c.cY
theorem f281_ex(a b:bK)(ha:kt a)(hb:kt b): ∃r,f281 [a,b]=some r/\(r=0↔gy a/\gy b/\mQ a b):=by
 unfold f281;have c0: ¬(400<(([a,b]:List bK).length:Int)):=by simp
 simp only[c0,fZ,dv];refine eF (λk(s:Int)=>s=(k:Int)/\(0<k->gy a)/\(1<k->gy b/\mQ a b)) (λo=>match o with
  |.inl _=>gy a/\gy b/\mQ a b
  |.inr r=>r=1/\ ¬(gy a/\gy b/\mQ a b)) 2 (by omega) ⟨rfl,λh=>by omega,λh=>by omega⟩ ?_ ?_ ?_
 ·rintro k s hk ⟨rfl,h1,h2⟩;obtain⟨ra,ea,pa⟩:=f278_ex a ha.d ha.h ha.o;obtain⟨rb,eb,pb⟩:=f278_ex b hb.d hb.h hb.o;have ye:k=0\/k=1:=by omega
  rcases ye with rfl|rfl
  ·have g0:ix ([a,b]:List bK) ((0:Nat):Int)=some a:=rfl;have c1:(((0:Nat):Int)<(([a,b]:List bK).length:Int)):=by simp
   have c2: ¬((0:Int)<((0:Nat):Int)):=by simp
   simp only[c1,ju,cP,g0,cN,ea,c2,fZ,dv];rw[iz (by omega)]
   grind
  ·have g0:ix ([a,b]:List bK) ((1:Nat):Int)=some b:=rfl;have g1:ix ([a,b]:List bK) (wr (((1:Nat):Int)-1))=some a:=rfl;have c1:(((1:Nat):Int)<(([a,b]:List bK).length:Int)):=by simp
   have c2:((0:Int)<((1:Nat):Int)):=by simp
   simp only[c1,ju,cP,g0,g1,cN,eb,c2];rw[iz (by omega)];cases rb
   ·grind
   ·have hrb:=pb.1 rfl;obtain⟨rf,ef,pf⟩:=f324_ex a b ha.d hb.d hb.h hrb.hd
    grind
 ·simp_all
 intro o ho;cases o with
 |inr r=>simp_all
 |inl _=>simp_all
theorem f326_ex(c:bK)(g:b9)(f:Int)(hl:g.di.length=c.cA.length)(hs:ck c.cA): ∃l,f326 c g f=some l/\ck l:=by
 have vx:c.cA.length<=4194304:=hs;unfold f326;refine eF (λk(s:List aQ×Int)=>s.2=(k:Int)/\s.1.length<=k) (λl=>ck l) g.di.length (by omega) ⟨rfl,by simp⟩ ?_ ?_ ?_
 ·rintro k ⟨s1,s2⟩ hk ⟨e,h1⟩;simp only at e h1;subst e;have e1:g.di[k]? =some (g.di[k]'hk):=dF _;have e2:c.cA[k]? =some (c.cA[k]'(by omega)):=dF _;have m1:s1.length+1<=bc:=by unfold bc;omega
  simp only[cy e1,cP,bT e1,bT e2,cN,dp (l:=g.di) (by grind) e1,cQ m1]
  grind
 all_goals grind
theorem f275_2_ex(l m:List aQ)(hl:ck l)(hm:ck m): ∃b,f275_2 l m=some b/\True:=by
 have h1: ∀y,f327 y m=some (m.any λz=>jo y z):=by
  intro y;unfold f327 f328 f346;rw[eg m (λz=>jo y z) (λi _=>(i:Int)) hm]
  ·simp only[cN,fH];rw[<-gJ];unfold gX;cases m.findIdx? _<;>simp
  ·intro i z hz;simp only[cy hz,cP,bT hz,cN]
   grind
  ·simp
 unfold f275_2 f309_3;rw[eg l (λy=>m.any λz=>jo y z) (λi _=>(i:Int)) hl]
 ·simp only[cN,fH];cases l.findIdx? _<;>exact⟨_,rfl,trivial⟩
 ·intro i y hy;simp only[cy hy,cP,bT hy,cN,h1]
  grind
 ·simp
structure De (h:eE) (a:bK) (g:b9) (b:bK) (k:b9):Prop where
 hold: ∀x∈b.held,∀i j:Nat,gX (mP x) a.cA=(i:Int)->gX (mP x) b.cA=(j:Int)->g.di[i]? =k.di[j]?
 move: ¬(0<a.cA.length/\0<b.cA.length/\h.jump<jZ (wr (g.pos-k.pos)) (wr (k.pos-g.pos)))
theorem f283_ex(h:eE)(hh:od h)(a:bK)(g:b9)(b:bK)(k:b9)(ha:kt a)(hb:kt b)(fa:Fit h a g)(fb:Fit h b k)(hf:mQ a b): ∃r,f283 h a g b k=some r/\(r.2=true↔De h a g b k):=by
 have hbh:b.held.length<=4194304:=hb.h;have hn4:=hh.n4;unfold f283;refine eF (λn(s:Int)=>s=(n:Int)/\ ∀x∈b.held.take n,∀i j:Nat,gX (mP x) a.cA=(i:Int)->gX (mP x) b.cA=(j:Int)->g.di[i]? =k.di[j]?) (λo=>match o with
  |.inl _=> ∀x∈b.held,∀i j:Nat,gX (mP x) a.cA=(i:Int)->gX (mP x) b.cA=(j:Int)->g.di[i]? =k.di[j]?
  |.inr r=>r.2=false/\ ¬De h a g b k) b.held.length hbh ⟨rfl,λx hx=>by simp at hx⟩ ?_ ?_ ?_
 ·rintro n s hn ⟨rfl,hi⟩;have e1:b.held[n]? =some (b.held[n]'hn):=dF _;generalize b.held[n]'hn=x at e1;have hm:=gN e1;obtain⟨i,j,p,i1,j1,i2,j2⟩:=hf x hm;have wx:=(lf.1 i2).1;have Wb:=(lf.1 j2).1;have g1:g.di[i]? =some (g.di[i]'(by rw[fa.len];exact wx)):=dF _;have g2:k.di[j]? =some (k.di[j]'(by rw[fb.len];exact Wb)):=dF _;generalize g.di[i]'(by grind)=y1 at g1;generalize k.di[j]'(by grind)=y2 at g2;simp only[cy e1,cP,bT e1,cN,dp hb.h e1,f319_eq a x ha.d,f319_eq b x hb.d,i1,j1,bT g1,bT g2];by_cases hy:y1=y2
  ·subst hy;simp only[qd,qe,fZ,dv];refine .inl ⟨_,rfl,rfl,λy hy i' j' h1 h2=>?_⟩;rw[cz e1,oq]at hy
   grind
  ·simp only[qd,hy,YP,ju,cP];refine .inr ⟨_,rfl,rfl,λhS=>?_⟩;have:=hS.hold x hm i j i1 j1
   grind
 ·simp_all
 intro o ho;cases o with
 |inr r=>grind
 |inl _=>
 simp only at ho;simp only[BX,f325,cN];generalize Lb:jZ (wr (g.pos-k.pos)) (wr (k.pos-g.pos))=mv;refine iF (P1:=λj=>j=true↔(0<a.cA.length/\0<b.cA.length)) ?_ ?_
 ·by_cases c1:0<(a.cA.length:Int)
  all_goals simp_all
 intro j2 hj2;refine iF (P1:=λj=>j=true↔(0<a.cA.length/\0<b.cA.length/\h.jump<mv)) ?_ ?_
 ·cases j2
  all_goals grind
 intro j3 hj3;cases j3
 case true=>
  refine⟨_,rfl,?_⟩;simp;intro hS;exact hS.move (by grind)
 simp only[dv];have hS:De h a g b k:=⟨ho,λhm=>by grind⟩;refine iF (P1:=λ_=>True) ?_ ?_
 ·refine iF (P1:=λ_=>True) ?_ λb _=>?_
  ·cases j2
   all_goals grind
  ·cases b<;>exact⟨_,rfl,trivial⟩
 intro cost _;refine eF (λn(s:Int×Int)=>s.2=((n+1:Nat):Int)) (λ_=>True) h.low.length (by omega) rfl ?_ ?_ ?_
 ·rintro n ⟨s1,s2⟩ hn e;simp only at e;subst e;have c0:((n+1:Nat):Int)<=(h.low.length:Int):=by omega
  simp only[c0,ju,cP,cN];cases j2
  ·grind
  obtain⟨l1,e1,p1⟩:=f326_ex a g ((n+1:Nat):Int) fa.len ha.d;obtain⟨l2,e2,p2⟩:=f326_ex b k ((n+1:Nat):Int) fb.len hb.d;obtain⟨bb,e3,_⟩:=f275_2_ex l1 l2 p1 p2;simp only[e1,e2,e3,cN,cP];rw[iz (by omega)];cases decide (0<(l1.length:Int))
  ·simp_all
  cases decide (0<(l2.length:Int))
  ·simp_all
  cases bb<;>exact .inl ⟨_,rfl,rfl⟩
 ·rintro⟨s1,s2⟩ e;simp only at e;subst e;have c0: ¬(((h.low.length+1:Nat):Int)<=(h.low.length:Int)):=by omega
  simp only[c0,fZ,dv,cN]
  grind
 grind
structure Steps (h:eE) (a:bK) (g:b9) (b:bK) (k:b9):Prop where
 ra:gy a
 rb:gy b
 fo:mQ a b
 fa:Fit h a g
 fb:Fit h b k
 st:De h a g b k
theorem f227_ex(h:eE)(hh:od h)(h0:f59 h=some 0)(a:bK)(g:b9)(b:bK)(k:b9)(ha:kt a)(hb:kt b)(sg:ck g.di)(sk:ck k.di): ∃r,f227 h a g b k=some r/\(r.2=0↔Steps h a g b k):=by
 unfold f227;rw[h0];simp only[cN,qd,qe,fZ,dv];refine iF (f281_ex a b ha hb) λr hr=>?_;by_cases c1:r=0
 ·subst c1;obtain⟨r1,r2,r3⟩:=hr.1 rfl;simp only[qe,fZ,dv];refine iF (P1:=λj=>j=false↔(Fit h a g/\Fit h b k)) ?_ ?_
  ·refine iF (f282_ex h hh a g ha.d sg ha.o) λb1 h1=>?_;cases b1
   ·simp_all
   ·refine iF (f282_ex h hh b k hb.d sk hb.o) λb2 h2=>⟨!b2,rfl,?_⟩
    grind
  intro j hj;cases j
  ·obtain⟨f1,f2⟩:=hj.1 rfl;simp only[dv];refine iF (f283_ex h hh a g b k ha hb f1 f2 r3) λr hr=>?_;obtain⟨n,ok⟩:=r;cases ok
   ·refine⟨_,rfl,?_⟩;simp at hr |-
    exactλh=>hr h.st
   ·exact⟨_,rfl,by simp;exact⟨r1,r2,r3,f1,f2,hr.1 rfl⟩⟩
  ·refine⟨_,rfl,?_⟩;simp at hj |-
   exactλh=>hj h.fa h.fb
 ·simp only[c1,YP,ju,cP];exact⟨_,rfl,λh=>absurd h c1,λh=>absurd (hr.2 ⟨h.ra,h.rb,h.fo⟩) c1⟩
end Go.Proofs.YtgpciecmgoppiaaGreat
