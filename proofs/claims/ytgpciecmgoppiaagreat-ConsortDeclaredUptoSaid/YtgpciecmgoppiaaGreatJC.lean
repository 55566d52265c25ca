/- Plain laws, joined by gen/joinH.py. -/
import Derived.Test.YtgpciecmgoppiaaGreatJB
set_option linter.all false
namespace Go.Proofs.YtgpciecmgoppiaaGreat
open Go Go.Am Go.Sort
set_option maxRecDepth 100000
def sC(x:bH)(n:aX):Bool:=decide (n.bU=x.bU)
theorem f166_eq(l:List aX)(x:bH)(hl:l.length<=4096):f166 l x=some (gX (sC x) l):=by
 unfold f166;rw[eg l (sC x) (λi _=>(i:Int)) (by simp only[ck];omega)]
 ·simp only[cN,fH,gX];cases l.findIdx? _<;>simp
 ·intro i y hy;have hi:=(lf.1 hy).1;have n1:((i:Int)).toNat<cO:=by unfold cO;omega
  simp only[cy hy,cP,bT hy,cN,cQ n1,f167,sC];cases decide (y.bU=x.bU)<;>rfl
 ·simp
def s9(i k:Int)(x:bH)(n:aX):aX:=⟨n.bI++[⟨i,k⟩],n.bU,n.bP,jZ n.dr x.dr,n.bL,n.cS⟩
def FI(t i k:Int)(l:List aX)(x:bH):List aX:=
 if x.bP=t then(match l.findIdx? (sC x)with
  |some j=>(match l[j]? with
   |some n=>l.set j (s9 i k x n)
   |none=>l)
  |none=>l++[s9 i k x ⟨[],x.bU,t,0,⟨0,0⟩,0⟩])else l
def og(t i:Int):Nat->List bH->List aX->List aX
 |_,[],l=>l
 |k,x::r,l=>og t i (k+1) r (FI t i (k:Int) l x)
def qT(t:Int):Nat->List (List bH)->List aX->List aX
 |_,[],l=>l
 |i,p::r,l=>qT t (i+1) r (og t (i:Int) 0 p l)
theorem wQ(t i:Int): ∀(r:List bH)(k:Nat)(l:List aX),jJ (λk l x=>(.inl (FI t i (k:Int) l x):List aX⊕List aX)) (λl=>l) k r l=og t i k r l
 | [],k,l=>rfl
 |x::r,k,l=>by simp only[jJ,og,wQ t i r]
theorem uQ(t:Int): ∀(r:List (List bH))(k:Nat)(l:List aX),jJ (λi l p=>(.inl (og t (i:Int) 0 p l):List aX⊕List aX)) (λl=>l) k r l=qT t k r l
 | [],k,l=>rfl
 |x::r,k,l=>by simp only[jJ,qT,uQ t r]
def Vc(b:Nat)(l:List aX):Prop:=l.length<=b/\ ∀n∈l,n.bI.length<=b
theorem FJ{t i k:Int}{b:Nat}{l:List aX}{x:bH}(h:Vc b l):Vc (b+1) (FI t i k l x):=by
 obtain⟨h1,h2⟩:=h;unfold FI;split
 ·split
  ·split
   ·rename_i j _ n hn;refine⟨by simp;omega,λm hm=>?_⟩;rcases Z9 hm with hm|rfl
    ·have:=h2 m hm;omega
    ·have:=h2 n (gN hn);simp[s9];omega
   ·exact⟨by omega,λm hm=>by have:=h2 m hm;omega⟩
  ·refine⟨by simp;omega,λm hm=>?_⟩;rcases oq.1 hm with hm|hm
   ·have:=h2 m hm;omega
   ·simp at hm;subst hm;simp[s9]
 ·exact⟨by omega,λm hm=>by have:=h2 m hm;omega⟩
theorem zU{t i:Int}: ∀{p:List bH}{k b:Nat}{l:List aX},Vc b l->Vc (b+p.length) (og t i k p l)
 | [],k,b,l,h=>h
 |x::r,k,b,l,h=>by
  have:=zU (t:=t) (i:=i) (p:=r) (k:=k+1) (FJ (t:=t) (i:=i) (k:=(k:Int)) (x:=x) h);simp only[og,vl];rw[show b+(r.length+1)=b+1+r.length by omega];exact this
theorem f119_eq(bW:List (List bH))(t:Int)(h6:bW.length<=6)(h4: ∀p∈bW,p.length<=400):f119 bW t=some (qT t 0 bW []):=by
 unfold f119;have h:=jm (body:=λ((BQ,JC):(List aX×Int))=>bif (decide (JC<(bW.length:Int)))then((ix bW JC).bind λy2=>(bO (σ:=(List aX×Int)) (τ:=(List aX)) (λ((gk,uR):(List aX×Int))=>bif (decide (uR<(y2.length:Int)))then((((ix y2 uR).bind λy4=>bif (decide (y4.bP≠t))then(some gk)else((f166 gk y4).bind λr6=>((bif (decide (r6<0))then(bZ (gk.length<cO)<|some ((gk++[(⟨([]:List bX),y4.bU,t,0,(⟨0,0⟩:aQ),0⟩:aX)]),(gk.length:Int)))else(some (gk,r6))):Option (List aX×Int)).bind λ((ny,zS):(List aX×Int))=>(ix ny zS).bind λy9=>bZ (zS.toNat<cO)<|bZ (y9.bI.length+1<=bc)<|some (ny.set zS.toNat (⟨(y9.bI++([(⟨JC,uR⟩:bX)]:List bX)),y9.bU,y9.bP,(jZ y9.dr y4.dr),y9.bL,y9.cS⟩:aX)))):Option (List aX)).bind λ(tc:(List aX))=>some (.inl (tc,(wr (uR+1)))))else(some (.inr gk))) cr (BQ,0)).bind λ(HS:(List aX))=>some (.inl (HS,(wr (JC+1)))))else(some (.inr BQ)))
  (λa i=>(a,i)) (λi l p=>(.inl (og t (i:Int) 0 p l):List aX⊕List aX)) (λl=>l) bW (λi l=>Vc (400*i) l) [] (iD (by simp only[ck];omega)) ⟨by simp,by simp⟩ ?_ ?_
 ·rw[h,uQ];rfl
 ·intro i l p hp hi;have hp4:=h4 p (gN hp);have hi6:=(lf.1 hp).1;have DG:ck bW:=by simp only[ck];omega
  have mj:ck p:=by simp only[ck];omega
  refine⟨?_,λa' P7=>?_⟩
  ·simp only[cy hp,cP,bT hp,cN,dp DG hp];have h2:=jm (body:=λ((gk,uR):(List aX×Int))=>bif (decide (uR<(p.length:Int)))then((((ix p uR).bind λy4=>bif (decide (y4.bP≠t))then(some gk)else((f166 gk y4).bind λr6=>((bif (decide (r6<0))then(bZ (gk.length<cO)<|some ((gk++[(⟨([]:List bX),y4.bU,t,0,(⟨0,0⟩:aQ),0⟩:aX)]),(gk.length:Int)))else(some (gk,r6))):Option (List aX×Int)).bind λ((ny,zS):(List aX×Int))=>(ix ny zS).bind λy9=>bZ (zS.toNat<cO)<|bZ (y9.bI.length+1<=bc)<|some (ny.set zS.toNat (⟨(y9.bI++([(⟨(i:Int),uR⟩:bX)]:List bX)),y9.bU,y9.bP,(jZ y9.dr y4.dr),y9.bL,y9.cS⟩:aX)))):Option (List aX)).bind λ(tc:(List aX))=>some (.inl (tc,(wr (uR+1)))))else(some (.inr gk)))
    (λa i=>(a,i)) (λk l x=>(.inl (FI t (i:Int) (k:Int) l x):List aX⊕List aX)) (λl=>l) p (λk l=>Vc (400*i+k) l) l (iD mj) hi ?_ ?_
   ·rw[wQ]at h2;simp only[h2,cN];rfl
   ·intro k l x hx hF;have hk:=(lf.1 hx).1;obtain⟨f1,f2⟩:=hF;refine⟨?_,λa' P7=>?_⟩
    ·simp only[cy hx,cP,bT hx,cN,dp mj hx,f166_eq l x (by omega)];unfold FI;by_cases c1:x.bP=t
     ·simp only[c1,qd,qe,fZ,dv,Ak];cases hf:l.findIdx? (sC x)with
      |none=>
       have nD:gX (sC x) l= -1:=by unfold gX;rw[hf]
       have m1:l.length<cO:=by unfold cO;omega
       have g1:(l++[(⟨[],x.bU,t,0,⟨0,0⟩,0⟩:aX)])[l.length]? =some ⟨[],x.bU,t,0,⟨0,0⟩,0⟩:=by simp
       have m2:([]:List bX).length+1<=bc:=by simp;unfold bc;omega
       have c2:((-1:Int)<0):=by omega
       simp only[nD,c2,ju,cP,cQ m1,cN,bT g1,wb,cQ m2];simp only[BG,List.set_append_right l.length _ (fw _),RX,List.set_cons_zero];rfl
      |some j=>
       obtain⟨hj,_⟩:=zEA.1 hf;have nD:gX (sC x) l=(j:Int):=by unfold gX;rw[hf]
       have g1:l[j]? =some (l[j]'hj):=dF _;have mu:=f2 _ (F2 hj);have m1:j<cO:=by unfold cO;omega
       have m2:(l[j]'hj).bI.length+1<=bc:=by unfold bc;omega
       have c2: ¬((j:Int)<0):=by omega
       simp only[nD,c2,fZ,dv,cN,bT g1,g1,wb,cQ m1,cQ m2,BG];rfl
     ·simp only[c1,qd,YP,ju,cP,if_false,cN,BG]
    ·cases P7;have:=FJ (t:=t) (i:=(i:Int)) (k:=(k:Int)) (x:=x) (b:=400*i+k) (l:=l) ⟨f1,f2⟩;exact this
   ·intro a _;simp
  ·cases P7;have hF:Vc (400*i) l:=hi;have:=zU (t:=t) (i:=(i:Int)) (p:=p) (k:=0) hF;obtain⟨g1,g2⟩:=this;exact⟨by omega,λn hn=>by have:=g2 n hn;omega⟩
 ·intro a _;simp
theorem zV:gy ⟨[],[],[]⟩:=⟨λi p q h=>by simp at h,by simp,λi a b h=>by simp at h,λi a b h=>by simp at h,by simp,by simp⟩
theorem Ly{c:bK}(h:gy c):c.cY.length<=14:=by
 have key: ∀(i:Nat)x,c.cY[i]? =some x->(i:Int)+1<=x:=by
  intro i
  induction i with
  |zero=>intro p hp;have:=h.oo p (gN hp);omega
  |succ i ih=>
   intro p hp;have hi:=(lf.1 hp).1;have e1:c.cY[i]? =some (c.cY[i]'(by omega)):=dF _;have:=ih _ e1;have:=h.oa i _ p e1 hp;omega
 rcases J4 14 c.cY.length with hl|hl
 ·have e1:c.cY[14]? =some (c.cY[14]'hl):=dF _;have h1:=key 14 _ e1;have h2:=h.oo _ (gN e1);omega
 ·exact hl
theorem zW: ∀(l:List Int)(e:Int),lK e l=true->(∀(i:Nat)x,l[i]? =some x->e<x/\x<=127)/\ ∀(i j:Nat)x y,i<j->l[i]? =some x->l[j]? =some y->x<y
 | [],e,_=>⟨λi x h=>by simp at h,λi j x y _ h=>by simp at h⟩
 |a::r,e,h=>by
  simp only[lK,eU,sr,J3,PA]at h;obtain⟨⟨h1,h2⟩,h3⟩:=h;obtain⟨k1,k2⟩:=zW r a h3;refine⟨λi x hx=>?_,λi j x y sL hx hy=>?_⟩
  ·cases i with
   |zero=>simp at hx;subst hx;omega
   |succ i=>have:=k1 i x (by simpa using hx);omega
  ·cases j with
   |zero=>omega
   |succ j=>
    cases i with
    |zero=>simp at hx;subst hx;exact(k1 j y (by simpa using hy)).1
    |succ i=>exact k2 i j x y (by omega) (by simpa using hx) (by simpa using hy)
theorem Lz{s:List Int}(hs:lK 0 s=true){c:cE}(hp:0<=c.bU/\c.bU<=127){i j:Nat}(sL:i<j)(hj:j<=s.length):kq s c i<kq s c j:=by
 obtain⟨k1,k2⟩:=zW s 0 hs;have ej:s[j-1]? =some (s[j-1]'(by omega)):=dF _;have hj1:=k1 _ _ ej;have vj:kq s c j=c.bU+s[j-1]'(by omega):=by
  unfold kq;rw[fN (by omega),ej,J1,jx (by omega) (by omega)]
 rw[vj];by_cases hi:i=0
 ·subst hi;unfold kq;rw[ez rfl];omega
 ·have ei:s[i-1]? =some (s[i-1]'(by omega)):=dF _;have hi1:=k1 _ _ ei;have vi:kq s c i=c.bU+s[i-1]'(by omega):=by
   unfold kq;rw[fN hi,ei,J1,jx (by omega) (by omega)]
  have:=k2 (i-1) (j-1) _ _ (by omega) ei ej;rw[vi];omega
theorem filter_one{α:Type}{p:α->Bool}: ∀{l:List α},l.Pairwise (λa b=> ¬(p a=true/\p b=true))->(l.filter p).length<=1
 | [],_=>by simp
 |a::r,h=>by
  rw[Dt]at h;cases hp:p a with
  |false=>simp only[YQ,hp];exact filter_one h.2
  |true=>
   have:r.filter p=[]:=by
    rw[zD6];intro b hb hpb;exact h.1 b hb ⟨hp,hpb⟩
   simp[YQ,hp,this]
theorem OR{s:List Int}(hs:lK 0 s=true){p:Int}{i:Nat}{c:cE}(hp:0<=c.bU/\c.bU<=127){n:Nat}(hn:n<=s.length+1):(li s p i c n).length<=1:=by
 unfold li;rw[vn];refine filter_one ?_;have hr:(List.range n).Pairwise (· < ·):=List.pairwise_lt_range;have WY:(List.range n).Pairwise λa b=>a<b/\a<n/\b<n:=by
  rw[Tc]at hr |-
  intro a b ha hb Lc;have:=hr a b ha hb Lc;simp at ha hb;simp at this |-
  omega
 refine WY.imp λ{a b}h1 h2=>?_;obtain⟨e1,e2⟩:=h2;simp at e1 e2;have:=Lz hs hp h1.1 (by omega);omega
theorem wR{s:List Int}(hs:lK 0 s=true)(p:Int): ∀(l:List cE)(i:Nat),(∀c∈l,gT s c=0)->(fK s p i l).length<=l.length
 | [],i,_=>by simp[fK]
 |c::r,i,h=>by
  obtain⟨q1,q2,q3,q4,_⟩:=ko (h c (by simp));have h1:=OR hs (p:=p) (i:=i) ⟨q3,q4⟩ (n:=c.dJ.toNat+1) (by omega);have h2:=wR hs p r (i+1) λc hc=>h c (by simp[hc]);simp only[fK,re,vl];omega
theorem wS{s:List Int}{p:Int}: ∀{l:List cE}{i:Nat}{x:aQ},x∈fK s p i l-> ∃(k:Nat)(c:cE),l[k]? =some c/\x.aW=((i+k+1:Nat):Int)/\0<=x.ct/\x.ct<=(c.dJ.toNat:Int)/\kq s c x.ct.toNat=p
 | [],i,x,h=>by simp[fK]at h
 |c::r,i,x,h=>by
  simp only[fK,oq]at h;rcases h with h|h
  ·unfold li at h;obtain⟨k,h1,rfl⟩:=mS.1 h;simp at h1;exact⟨0,c,rfl,by simp,by simp,by simp;omega,by simpa using h1.2⟩
  ·obtain⟨k,c',h1,h2,h3⟩:=wS h;exact⟨k+1,c',by simpa using h1,by rw[h2];congr 1;omega,h3⟩
theorem iQ{a:bp}{q:Int}{p:aQ}(h:p∈(eN a q).1):instS a=0/\1<=p.aW/\p.aW<=14/\0<=p.ct/\p.ct<=18/\ ∃c,a.bQ[(p.aW-1).toNat]? =some c/\p.ct<=c.dJ/\kq a.br c p.ct.toNat=q:=by
 unfold eN at h;by_cases hi:instS a=0
 ·obtain⟨h1,h2,_,_,h5⟩:=instS_ok hi;simp only[hi,Ak]at h;cases hb:(decide (q<0)||decide (127<q))
  ·rw[hb]at h;simp only[dv]at h;obtain⟨k,c,k1,k2,k3,k4,k5⟩:=wS h;have hk:=(lf.1 k1).1;have hc:=ko (h5 c (gN k1));refine⟨hi,by omega,by omega,k3,by omega,c,?_,by omega,k5⟩;have:(p.aW-1).toNat=k:=by omega
   rw[this];exact k1
  ·rw[hb]at h;simp at h
 ·simp[hi]at h
theorem HU(a:bp)(q:Int):(eN a q).1.length<=14:=by
 unfold eN;by_cases hi:instS a=0
 ·obtain⟨h1,h2,_,h4,h5⟩:=instS_ok hi;have:=wR h4 q a.bQ 0 h5;simp only[hi,Ak];generalize(decide (q<0)||decide (127<q))=b;cases b<;>simp <;>omega
 ·simp[hi]
theorem pG{α:Type}{l:List (List α)}{k:Nat}{p:List α}(h:l[k]? =some p):(l.take (k+1)).flatten=(l.take k).flatten++p:=by rw[cz h];simp
theorem pH{α:Type}(l:List (List α))(k:Nat):(l.take k).flatten.length<=l.flatten.length:=by
 grind [List.take_append_drop]
theorem f62_eq(l:List (List cB))(hs:ck l)(sH:l.flatten.length<=4000000):f62 l=some l.flatten:=by
 unfold f62;rw[jj (λk=>(((l.take k).flatten.length:Int),(k:Int))) l.length hs (by simp) (r:=(l.flatten.length:Int))]
 ·have F9:f118 (l.flatten.length:Int)=some []:=by unfold f118;grind
  rw[cN,F9,cN];rw[jj (λk=>((l.take k).flatten,(k:Int))) l.length hs (by simp) (r:=l.flatten)]
  ·rfl
  ·intro k hk;have hg:l[k]? =some (l[k]'hk):=dF hk;generalize l[k]'hk=p at hg;have hf:=pG hg;have ht:=pH l (k+1);rw[hf,re]at ht;simp only[cy hg,cP,bT hg,cN,dp hs hg,hf];by_cases he:p=[]
   ·grind
   ·have hm:(l.take k).flatten.length+p.length<=bc:=by unfold bc;omega
    rw[show p.isEmpty=false from by grind];simp only[dv,bZ,ez hm,cN]
  ·simp
 ·intro k hk;have hg:l[k]? =some (l[k]'hk):=dF hk;generalize l[k]'hk=p at hg;have hf:=pG hg;have ht:=pH l (k+1);rw[hf,re]at ht;have hw:wr (((l.take k).flatten.length:Int)+(p.length:Int))=(((l.take k).flatten.length+p.length:Nat):Int):=by grind [sX]
  have U3:decide ((((l.take k).flatten.length+p.length:Nat):Int)<0)=false:=qf (by omega);simp only[cy hg,cP,bT hg,cN,hw,U3,dv,dp hs hg,hf,re]
 ·simp
theorem f63_eq(l:List cE)(h:ck l):f63 l=some l:=by
 unfold f63;by_cases c:l=[]
 ·subst c;simp
 ·have:l.length<=bc:=by simp only[ck]at h;unfold bc;omega
  grind [cQ]
theorem f64_eq(l:List Int)(h:ck l):f64 l=some l:=by
 unfold f64;by_cases c:l=[]
 ·subst c;simp
 ·have:l.length<=bc:=by simp only[ck]at h;unfold bc;omega
  grind [cQ]
theorem f65_eq(l:List (List bH))(h6:l.length<=6)(h4: ∀p∈l,p.length<=400):f65 l=some (l.map λp=>List.replicate p.length ⟨0,0⟩):=by
 unfold f65;have n1:(0:Int)<=(l.length:Int):=by omega
 have n2:(l.length:Int)<=(bc:Int):=by unfold bc;omega
 simp only[cQ n1,cQ n2];rw[jj (λk=>((l.take k).map λp=>List.replicate p.length (⟨0,0⟩:aQ),(k:Int))) l.length (by omega) (by simp) (r:=l.map λp=>List.replicate p.length ⟨0,0⟩)]
 ·rfl
 ·intro k hk;have hg:l[k]? =some (l[k]'hk):=dF hk;generalize l[k]'hk=p at hg;have hp:=h4 p (gN hg);have m1:(0:Int)<=(p.length:Int):=by omega
  have m2:(p.length:Int)<=(bc:Int):=by unfold bc;omega
  have m3:((l.take k).map λp=>List.replicate p.length (⟨0,0⟩:aQ)).length<cO:=by simp[cO];omega
  simp only[cy hg,cP,bT hg,cN,dp (l:=l) (by grind) hg,f66,cQ m1,cQ m2,cQ m3,wb,cz hg,F4];rfl
 ·simp
theorem Df: ∀(p:List bH)(e:Int),Lm e p=true->(∀(i:Nat)x,p[i]? =some x->e<=x.bP/\x.bP<x.dr/\x.dr<=262144/\0<=x.bU/\x.bU<=127)/\ ∀(i j:Nat)x y,i<j->p[i]? =some x->p[j]? =some y->x.dr<=y.bP
 | [],e,_=>⟨λi x h=>by simp at h,λi j x y _ h=>by simp at h⟩
 |t::r,e,h=>by
  simp only[Lm,eU,sr,zO,pB,J3,PA,zD4,BW]at h;obtain⟨⟨⟨h1,h1'⟩,h2,h3,h4⟩,h5⟩:=h;obtain⟨k1,k2⟩:=Df r t.dr h5;refine⟨λi x hx=>?_,λi j x y sL hx hy=>?_⟩
  all_goals grind
def k9(p:List bH):List Int:=(p.flatMap (eT p)).foldl pZ [0]
theorem JD(p:List bH):qM (k9 p):=(oL _ [0] (by simp[qM])).1
theorem uS(p:List bH)(y:Int):y∈k9 p↔(∃x∈p,y∈eT p x)\/y=0:=by
 unfold k9;rw[(oL _ [0] (by simp[qM])).2 y];simp
theorem OS{p:List bH}{x:bH}(hx:x∈p):x.bP∈k9 p:=by
 rw[uS];left;refine⟨x,hx,?_⟩;unfold eT
 grind
theorem LA{p:List bH}{y:Int}(h:y∈k9 p):y=0\/ ∃x∈p,y=x.bP\/y=x.dr:=by
 rw[uS]at h;rcases h with⟨x,hx,h⟩|h
 ·right;refine⟨x,hx,?_⟩;unfold eT at h
  grind
 grind
theorem uT{l:List Int}(h:qM l){i j:Nat}{a b:Int}(sL:i<j)(ha:l[i]? =some a)(hb:l[j]? =some b):a<b:=by
 unfold qM at h
 grind [List.pairwise_iff_getElem]
theorem OT{l:List Int}(h:qM l){i:Nat}{a b y:Int}(ha:l[i]? =some a)(hb:l[i+1]? =some b)(hy:y∈l)(kc:a<y):b<=y:=by
 obtain⟨m,hm,rfl⟩:=qZ hy;have em:l[m]? =some l[m]:=dF hm;rcases Wx m (i+1)with h1|h1|h1
 ·rcases J4 m i with h2|h2
  ·have:=uT h h2 em ha;omega
  grind
 ·grind
 ·have:=uT h h1 hb em;omega
theorem RA{p:List bH}:(k9 p).length<=2*p.length+1:=by
 have h1:=vV (p.flatMap (eT p)) [0];have h2:=oN p p;have h1:(k9 p).length<=_:=h1
 grind
theorem uU: ∀{l:List cB},(∀s∈l,s∈gF)->l.length<=kr l
 | [],_=>by simp
 |s::l,h=>by
  have h1:=(kY s (h s (by simp))).2.1;have h2:=uU (l:=l) λx hx=>h x (by simp[hx]);show l.length+1<=tk s+kr l;omega
abbrev StI:=List aQ×List Int×List Int×List bJ×List aX×List b9×List cE×List Int×List bJ×List (List aQ)×List cV×Int
end Go.Proofs.YtgpciecmgoppiaaGreat
