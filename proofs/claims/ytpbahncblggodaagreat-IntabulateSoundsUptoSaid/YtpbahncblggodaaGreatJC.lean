/- Plain laws, joined by gen/joinH.py. -/
import Derived.Test.YtpbahncblggodaaGreatJB
set_option linter.all false
namespace Go.Proofs.YtpbahncblggodaaGreat
open Go Go.Am Go.Sort
set_option maxRecDepth 100000
def rM(x:bV)(n:bF):Bool:=decide (n.bW=x.bW)
theorem f155_eq(l:List bF)(x:bV)(hl:l.length<=4096):f155 l x=some (gu (rM x) l):=by
 unfold f155
 rw[dP l (rM x) (λi _=>(i:Int)) (by simp only[bT];omega)]
 ·simp only[cH,fi,gu]
  cases l.findIdx? _<;>simp
 ·intro i y hy
  have hi:=(fM.1 hy).1
  have n1:((i:Int)).toNat<cO:=by unfold cO;omega
  simp only[cJ hy,cond_true,b9 hy,cH,de n1,f156,rM]
  cases decide (y.bW=x.bW)<;>rfl
 ·simp
def sA(i k:Int)(x:bV)(n:bF):bF:=⟨n.bO++[⟨i,k⟩],n.bW,n.bX,kw n.dr x.dr,n.bP,n.cW⟩
def D6(t i k:Int)(l:List bF)(x:bV):List bF:=
 if x.bX=t then(match l.findIdx? (rM x)with
  |some j=>(match l[j]? with
   |some n=>l.set j (sA i k x n)
   |none=>l)
  |none=>l++[sA i k x ⟨[],x.bW,t,0,⟨0,0⟩,0⟩])else l
def nk(t i:Int):Nat->List bV->List bF->List bF
 |_,[],l=>l
 |k,x::r,l=>nk t i (k+1) r (D6 t i (k:Int) l x)
def qi(t:Int):Nat->List (List bV)->List bF->List bF
 |_,[],l=>l
 |i,p::r,l=>qi t (i+1) r (nk t (i:Int) 0 p l)
theorem vM(t i:Int): ∀(r:List bV)(k:Nat)(l:List bF),jn (λk l x=>(.inl (D6 t i (k:Int) l x):List bF⊕List bF)) (λl=>l) k r l=nk t i k r l
 | [],k,l=>rfl
 |x::r,k,l=>by simp only[jn,nk,vM t i r]
theorem uc(t:Int): ∀(r:List (List bV))(k:Nat)(l:List bF),jn (λi l p=>(.inl (nk t (i:Int) 0 p l):List bF⊕List bF)) (λl=>l) k r l=qi t k r l
 | [],k,l=>rfl
 |x::r,k,l=>by simp only[jn,qi,uc t r]
def Sv(b:Nat)(l:List bF):Prop:=l.length<=b/\ ∀n∈l,n.bO.length<=b
theorem D7{t i k:Int}{b:Nat}{l:List bF}{x:bV}(h:Sv b l):Sv (b+1) (D6 t i k l x):=by
 obtain⟨h1,h2⟩:=h
 unfold D6
 split
 ·split
  ·split
   ·rename_i j _ n hn
    refine⟨by simp;omega,λm hm=>?_⟩
    rcases WH hm with hm|rfl
    ·have:=h2 m hm;omega
    ·have:=h2 n (gx hn)
     simp[sA];omega
   ·exact⟨by omega,λm hm=>by have:=h2 m hm;omega⟩
  ·refine⟨by simp;omega,λm hm=>?_⟩
   rcases la.1 hm with hm|hm
   ·have:=h2 m hm;omega
   ·simp at hm;subst hm;simp[sA]
 ·exact⟨by omega,λm hm=>by have:=h2 m hm;omega⟩
theorem yw{t i:Int}: ∀{p:List bV}{k b:Nat}{l:List bF},Sv b l->Sv (b+p.length) (nk t i k p l)
 | [],k,b,l,h=>h
 |x::r,k,b,l,h=>by
  have:=yw (t:=t) (i:=i) (p:=r) (k:=k+1) (D7 (t:=t) (i:=i) (k:=(k:Int)) (x:=x) h)
  simp only[nk,oc]
  rw[show b+(r.length+1)=b+1+r.length by omega]
  exact this
theorem f96_eq(cu:List (List bV))(t:Int)(h6:cu.length<=6)(h4: ∀p∈cu,p.length<=400):f96 cu t=some (qi t 0 cu []):=by
 unfold f96
 have h:=iW (body:=λ((AP,HV):(List bF×Int))=>bif (decide (HV<(cu.length:Int)))then((ix cu HV).bind λy2=>(bY (σ:=(List bF×Int)) (τ:=(List bF)) (λ((fJ,ud):(List bF×Int))=>bif (decide (ud<(y2.length:Int)))then((((ix y2 ud).bind λy4=>bif (decide (y4.bX≠t))then(some fJ)else((f155 fJ y4).bind λr6=>((bif (decide (r6<0))then(cr (fJ.length<cO)<|some ((fJ++[(⟨([]:List b8),y4.bW,t,0,(⟨0,0⟩:bn),0⟩:bF)]),(fJ.length:Int)))else(some (fJ,r6))):Option (List bF×Int)).bind λ((mu,yr):(List bF×Int))=>(ix mu yr).bind λy9=>cr (yr.toNat<cO)<|cr (y9.bO.length+1<=bJ)<|some (mu.set yr.toNat (⟨(y9.bO++([(⟨HV,ud⟩:b8)]:List b8)),y9.bW,y9.bX,(kw y9.dr y4.dr),y9.bP,y9.cW⟩:bF)))):Option (List bF)).bind λ(sB:(List bF))=>some (.inl (sB,(wr (ud+1)))))else(some (.inr fJ))) cy (AP,0)).bind λ(Ga:(List bF))=>some (.inl (Ga,(wr (HV+1)))))else(some (.inr AP)))
  (λa i=>(a,i)) (λi l p=>(.inl (nk t (i:Int) 0 p l):List bF⊕List bF)) (λl=>l) cu (λi l=>Sv (400*i) l) [] (gT (by simp only[bT];omega)) ⟨by simp,by simp⟩ ?_ ?_
 ·rw[h,uc]
  rfl
 ·intro i l p hp hi
  have ZG:=h4 p (gx hp)
  have hi6:=(fM.1 hp).1
  have zn:bT cu:=by simp only[bT];omega
  have ku:bT p:=by simp only[bT];omega
  refine⟨?_,λa' Kg=>?_⟩
  ·simp only[cJ hp,cond_true,b9 hp,cH,dB zn hp]
   have h2:=iW (body:=λ((fJ,ud):(List bF×Int))=>bif (decide (ud<(p.length:Int)))then((((ix p ud).bind λy4=>bif (decide (y4.bX≠t))then(some fJ)else((f155 fJ y4).bind λr6=>((bif (decide (r6<0))then(cr (fJ.length<cO)<|some ((fJ++[(⟨([]:List b8),y4.bW,t,0,(⟨0,0⟩:bn),0⟩:bF)]),(fJ.length:Int)))else(some (fJ,r6))):Option (List bF×Int)).bind λ((mu,yr):(List bF×Int))=>(ix mu yr).bind λy9=>cr (yr.toNat<cO)<|cr (y9.bO.length+1<=bJ)<|some (mu.set yr.toNat (⟨(y9.bO++([(⟨(i:Int),ud⟩:b8)]:List b8)),y9.bW,y9.bX,(kw y9.dr y4.dr),y9.bP,y9.cW⟩:bF)))):Option (List bF)).bind λ(sB:(List bF))=>some (.inl (sB,(wr (ud+1)))))else(some (.inr fJ)))
    (λa i=>(a,i)) (λk l x=>(.inl (D6 t (i:Int) (k:Int) l x):List bF⊕List bF)) (λl=>l) p (λk l=>Sv (400*i+k) l) l (gT ku) hi ?_ ?_
   ·rw[vM]at h2
    simp only[h2,cH]
    rfl
   ·intro k l x hx hF
    have hk:=(fM.1 hx).1
    obtain⟨f1,f2⟩:=hF
    refine⟨?_,λa' Kg=>?_⟩
    ·simp only[cJ hx,cond_true,b9 hx,cH,dB ku hx,f155_eq l x (by omega)]
     unfold D6
     by_cases c1:x.bX=t
     ·simp only[c1,ne_eq,not_true_eq_false,decide_false,cond_false,if_true]
      cases hf:l.findIdx? (rM x)with
      |none=>
       have jC:gu (rM x) l= -1:=by unfold gu;rw[hf]
       have m1:l.length<cO:=by unfold cO;omega
       have g1:(l++[(⟨[],x.bW,t,0,⟨0,0⟩,0⟩:bF)])[l.length]? =some ⟨[],x.bW,t,0,⟨0,0⟩,0⟩:=by simp
       have m2:([]:List b8).length+1<=bJ:=by simp;unfold bJ;omega
       have c2:((-1:Int)<0):=by omega
       simp only[jC,c2,decide_true,cond_true,de m1,cH,b9 g1,nv,de m2]
       simp only[AQ,List.set_append_right l.length _ (eu _),PI,List.set_cons_zero]
       rfl
      |some j=>
       obtain⟨hj,_⟩:=Ui.1 hf
       have jC:gu (rM x) l=(j:Int):=by unfold gu;rw[hf]
       have g1:l[j]? =some (l[j]'hj):=dC _
       have jZ:=f2 _ (zo hj)
       have m1:j<cO:=by unfold cO;omega
       have m2:(l[j]'hj).bO.length+1<=bJ:=by unfold bJ;omega
       have c2: ¬((j:Int)<0):=by omega
       simp only[jC,c2,decide_false,cond_false,cH,b9 g1,g1,nv,de m1,de m2,AQ]
       rfl
     ·simp only[c1,ne_eq,not_false_eq_true,decide_true,cond_true,if_false,cH,AQ]
    ·cases Kg
     have:=D7 (t:=t) (i:=(i:Int)) (k:=(k:Int)) (x:=x) (b:=400*i+k) (l:=l) ⟨f1,f2⟩
     exact this
   ·intro a _
    simp
  ·cases Kg
   have hF:Sv (400*i) l:=hi
   have:=yw (t:=t) (i:=(i:Int)) (p:=p) (k:=0) hF
   obtain⟨g1,g2⟩:=this
   exact⟨by omega,λn hn=>by have:=g2 n hn;omega⟩
 ·intro a _
  simp
theorem f157_nil:f157 []=some []:=by
 unfold f157 f217 f263
 have c1: ¬((20:Int)<=(([]:List bF).length:Int)):=by simp
 have c2: ¬((20:Int)<(([]:List bF).length:Int)):=by simp
 have c3: ¬(wr ((0:Int)+1)<(([]:List bF).length:Int)):=by rw[jd (by omega) (by omega)];simp
 rw[eE (r:=(([]:List bF),(0:Int))) (by simp only[c1,decide_false,cond_false]) _ (by unfold cy;omega)]
 simp only[cH]
 rw[eE (r:=([]:List bF)) (by simp only[c3,decide_false,cond_false]) _ (by unfold cy;omega)]
 simp only[cH,cr,if_true]
 rw[eE (r:=([]:List bF)) (by simp only[c2,decide_false,cond_false]) _ (by unfold cy;omega)]
 rfl
theorem f97_nil(d:cM)(t:Int)(hl:bT d.cV)(h: ∀n∈d.cV,¬t<n.dr):f97 d t=some []:=by
 have key: ∃r,f97 d t=some r/\r=[]:=by
  unfold f97
  refine eO (λk(s:List bF×Int)=>s.2=(k:Int)/\s.1=[]) (λr=>r=[]) d.cV.length hl ⟨rfl,rfl⟩ ?_ ?_ ?_
  ·rintro k ⟨s1,s2⟩ hk ⟨e0,e1⟩
   simp only at e0 e1
   subst e0;subst e1
   have x1:d.cV[k]? =some (d.cV[k]'hk):=dC _
   have c1:=h _ (zo hk)
   simp only[cJ x1,cond_true,b9 x1,cH,dB hl x1,c1,decide_false,cond_false]
   exact .inl ⟨_,rfl,rfl,rfl⟩
  ·rintro⟨s1,s2⟩ ⟨e0,e1⟩
   simp only at e0 e1
   subst e0;subst e1
   simp only[kF,decide_false,cond_false]
   exact⟨_,rfl,rfl⟩
  ·rintro r rfl
   simp only[f157_nil,cH,cr,if_true]
   exact⟨_,rfl,rfl⟩
 obtain⟨r,h1,rfl⟩:=key
 exact h1
end Go.Proofs.YtpbahncblggodaaGreat
set_option linter.all false
namespace Go.Proofs.YtpbahncblggodaaGreat
open Go Go.Am Go.Sort
set_option maxRecDepth 100000
theorem yx:ga ⟨[],[],[]⟩:=⟨λi p q h=>by simp at h,by simp,λi a b h=>by simp at h,λi a b h=>by simp at h,by simp,by simp⟩
theorem JD{c:bR}(h:ga c):c.db.length<=14:=by
 have key: ∀(i:Nat)x,c.db[i]? =some x->(i:Int)+1<=x:=by
  intro i
  induction i with
  |zero=>intro p hp;have:=h.oo p (gx hp);omega
  |succ i ih=>
   intro p hp
   have hi:=(fM.1 hp).1
   have e1:c.db[i]? =some (c.db[i]'(by omega)):=dC _
   have:=ih _ e1
   have:=h.oa i _ p e1 hp
   omega
 rcases EI 14 c.db.length with hl|hl
 ·have e1:c.db[14]? =some (c.db[14]'hl):=dC _
  have h1:=key 14 _ e1
  have h2:=h.oo _ (gx e1)
  omega
 ·exact hl
end Go.Proofs.YtpbahncblggodaaGreat
set_option linter.all false
namespace Go.Proofs.YtpbahncblggodaaGreat
open Go Go.Am Go.Sort
set_option maxRecDepth 100000
theorem yy: ∀(l:List Int)(e:Int),kR e l=true->(∀(i:Nat)x,l[i]? =some x->e<x/\x<=127)/\ ∀(i j:Nat)x y,i<j->l[i]? =some x->l[j]? =some y->x<y
 | [],e,_=>⟨λi x h=>by simp at h,λi j x y _ h=>by simp at h⟩
 |a::r,e,h=>by
  simp only[kR,eW,pC,EH,decide_eq_false_iff_not]at h
  obtain⟨⟨h1,h2⟩,h3⟩:=h
  obtain⟨k1,k2⟩:=yy r a h3
  refine⟨λi x hx=>?_,λi j x y pz hx hy=>?_⟩
  ·cases i with
   |zero=>simp at hx;subst hx;omega
   |succ i=>have:=k1 i x (by simpa using hx);omega
  ·cases j with
   |zero=>omega
   |succ j=>
    cases i with
    |zero=>simp at hx;subst hx;exact(k1 j y (by simpa using hy)).1
    |succ i=>exact k2 i j x y (by omega) (by simpa using hx) (by simpa using hy)
theorem JE{s:List Int}(hs:kR 0 s=true){c:cK}(hp:0<=c.bW/\c.bW<=127){i j:Nat}(pz:i<j)(hj:j<=s.length):jb s c i<jb s c j:=by
 obtain⟨k1,k2⟩:=yy s 0 hs
 have ej:s[j-1]? =some (s[j-1]'(by omega)):=dC _
 have hj1:=k1 _ _ ej
 have vj:jb s c j=c.bW+s[j-1]'(by omega):=by
  unfold jb
  rw[if_neg (by omega),ej,Bc,jd (by omega) (by omega)]
 rw[vj]
 by_cases hi:i=0
 ·subst hi
  unfold jb
  rw[if_pos rfl]
  omega
 ·have ei:s[i-1]? =some (s[i-1]'(by omega)):=dC _
  have ZX:=k1 _ _ ei
  have vi:jb s c i=c.bW+s[i-1]'(by omega):=by
   unfold jb
   rw[if_neg hi,ei,Bc,jd (by omega) (by omega)]
  have:=k2 (i-1) (j-1) _ _ (by omega) ei ej
  rw[vi]
  omega
theorem filter_one{α:Type}{p:α->Bool}: ∀{l:List α},l.Pairwise (λa b=> ¬(p a=true/\p b=true))->(l.filter p).length<=1
 | [],_=>by simp
 |a::r,h=>by
  rw[CG]at h
  cases hp:p a with
  |false=>simp only[Th,hp];exact filter_one h.2
  |true=>
   have:r.filter p=[]:=by
    rw[WR]
    intro b hb hpb
    exact h.1 b hb ⟨hp,hpb⟩
   simp[Th,hp,this]
theorem MF{s:List Int}(hs:kR 0 s=true){p:Int}{i:Nat}{c:cK}(hp:0<=c.bW/\c.bW<=127){n:Nat}(hn:n<=s.length+1):(kA s p i c n).length<=1:=by
 unfold kA
 rw[mA]
 refine filter_one ?_
 have hr:(List.range n).Pairwise (· < ·):=List.pairwise_lt_range
 have Q9:(List.range n).Pairwise λa b=>a<b/\a<n/\b<n:=by
  rw[EN]at hr |-
  intro a b ha hb Ja
  have:=hr a b ha hb Ja
  simp at ha hb
  simp at this |-
  omega
 refine Q9.imp λ{a b}h1 h2=>?_
 obtain⟨e1,e2⟩:=h2
 simp at e1 e2
 have:=JE hs hp h1.1 (by omega)
 omega
theorem vN{s:List Int}(hs:kR 0 s=true)(p:Int): ∀(l:List cK)(i:Nat),(∀c∈l,gC s c=0)->(fe s p i l).length<=l.length
 | [],i,_=>by simp[fe]
 |c::r,i,h=>by
  obtain⟨q1,q2,q3,q4,_⟩:=jL (h c (by simp))
  have h1:=MF hs (p:=p) (i:=i) ⟨q3,q4⟩ (n:=c.dz.toNat+1) (by omega)
  have h2:=vN hs p r (i+1) λc hc=>h c (by simp[hc])
  simp only[fe,kc,oc]
  omega
theorem vO{s:List Int}{p:Int}: ∀{l:List cK}{i:Nat}{x:bn},x∈fe s p i l-> ∃(k:Nat)(c:cK),l[k]? =some c/\x.bc=((i+k+1:Nat):Int)/\0<=x.ct/\x.ct<=(c.dz.toNat:Int)/\jb s c x.ct.toNat=p
 | [],i,x,h=>by simp[fe]at h
 |c::r,i,x,h=>by
  simp only[fe,la]at h
  rcases h with h|h
  ·unfold kA at h
   obtain⟨k,h1,rfl⟩:=kb.1 h
   simp at h1
   exact⟨0,c,rfl,by simp,by simp,by simp;omega,by simpa using h1.2⟩
  ·obtain⟨k,c',h1,h2,h3⟩:=vO h
   exact⟨k+1,c',by simpa using h1,by rw[h2];congr 1;omega,h3⟩
theorem gQ{a:bK}{q:Int}{p:bn}(h:p∈(eD a q).1):instS a=0/\1<=p.bc/\p.bc<=14/\0<=p.ct/\p.ct<=18/\ ∃c,a.cj[(p.bc-1).toNat]? =some c/\p.ct<=c.dz/\jb a.bN c p.ct.toNat=q:=by
 unfold eD at h
 by_cases hi:instS a=0
 ·obtain⟨h1,h2,_,_,h5⟩:=instS_ok hi
  simp only[hi,if_true]at h
  cases hb:(decide (q<0)||decide (127<q))
  ·rw[hb]at h
   simp only[cond_false]at h
   obtain⟨k,c,k1,k2,k3,k4,k5⟩:=vO h
   have hk:=(fM.1 k1).1
   have hc:=jL (h5 c (gx k1))
   refine⟨hi,by omega,by omega,k3,by omega,c,?_,by omega,k5⟩
   have:(p.bc-1).toNat=k:=by omega
   rw[this];exact k1
  ·rw[hb]at h
   simp at h
 ·simp[hi]at h
theorem Gb(a:bK)(q:Int):(eD a q).1.length<=14:=by
 unfold eD
 by_cases hi:instS a=0
 ·obtain⟨h1,h2,_,h4,h5⟩:=instS_ok hi
  have:=vN h4 q a.cj 0 h5
  simp only[hi,if_true]
  generalize(decide (q<0)||decide (127<q))=b
  cases b<;>simp <;>omega
 ·simp[hi]
end Go.Proofs.YtpbahncblggodaaGreat
set_option linter.all false
namespace Go.Proofs.YtpbahncblggodaaGreat
open Go Go.Am Go.Sort
set_option maxRecDepth 100000
end Go.Proofs.YtpbahncblggodaaGreat
set_option linter.all false
namespace Go.Proofs.YtpbahncblggodaaGreat
open Go Go.Am Go.Sort
set_option maxRecDepth 100000
end Go.Proofs.YtpbahncblggodaaGreat
set_option linter.all false
namespace Go.Proofs.YtpbahncblggodaaGreat
open Go Go.Am Go.Sort
set_option maxRecDepth 100000
theorem oR{α:Type}{l:List (List α)}{k:Nat}{p:List α}(h:l[k]? =some p):(l.take (k+1)).flatten=(l.take k).flatten++p:=by rw[cN h];simp
theorem oS{α:Type}(l:List (List α))(k:Nat):(l.take k).flatten.length<=l.flatten.length:=by
 have h:l.flatten=(l.take k).flatten++(l.drop k).flatten:=by rw[<-Yb,PJ]
 rw[h,kc]
 omega
theorem f43_eq(l:List (List cI))(hs:bT l)(pB:l.flatten.length<=4000000):f43 l=some l.flatten:=by
 unfold f43
 rw[iS (λk=>(((l.take k).flatten.length:Int),(k:Int))) l.length hs (by simp) (r:=(l.flatten.length:Int))]
 ·have CB:f95 (l.flatten.length:Int)=some []:=by unfold f95;rw[if_pos (by omega)]
  rw[cH,CB,cH]
  rw[iS (λk=>((l.take k).flatten,(k:Int))) l.length hs (by simp) (r:=l.flatten)]
  ·rfl
  ·intro k hk
   have hg:l[k]? =some (l[k]'hk):=dC hk
   generalize l[k]'hk=p at hg
   have hf:=oR hg
   have ht:=oS l (k+1)
   rw[hf,kc]at ht
   simp only[cJ hg,cond_true,b9 hg,cH,dB hs hg,hf]
   by_cases he:p=[]
   ·subst he;simp
   ·have hm:(l.take k).flatten.length+p.length<=bJ:=by unfold bJ;omega
    rw[show p.isEmpty=false from by simpa using he]
    simp only[cond_false,cr,if_pos hm,cH]
  ·simp
 ·intro k hk
  have hg:l[k]? =some (l[k]'hk):=dC hk
  generalize l[k]'hk=p at hg
  have hf:=oR hg
  have ht:=oS l (k+1)
  rw[hf,kc]at ht
  have hw:wr (((l.take k).flatten.length:Int)+(p.length:Int))=(((l.take k).flatten.length+p.length:Nat):Int):=by rw[su (by omega) (by omega)];omega
  have Sn:decide ((((l.take k).flatten.length+p.length:Nat):Int)<0)=false:=decide_eq_false (by omega)
  simp only[cJ hg,cond_true,b9 hg,cH,hw,Sn,cond_false,dB hs hg,hf,kc]
 ·simp
theorem f44_eq(l:List cK)(h:bT l):f44 l=some l:=by
 unfold f44
 by_cases c:l=[]
 ·subst c;simp
 ·have:l.length<=bJ:=by simp only[bT]at h;unfold bJ;omega
  rw[show l.isEmpty=false from by simpa using c];simp[de this]
theorem f45_eq(l:List Int)(h:bT l):f45 l=some l:=by
 unfold f45
 by_cases c:l=[]
 ·subst c;simp
 ·have:l.length<=bJ:=by simp only[bT]at h;unfold bJ;omega
  rw[show l.isEmpty=false from by simpa using c];simp[de this]
theorem f46_eq(l:List (List bV))(h6:l.length<=6)(h4: ∀p∈l,p.length<=400):f46 l=some (l.map λp=>List.replicate p.length ⟨0,0⟩):=by
 unfold f46
 have n1:(0:Int)<=(l.length:Int):=by omega
 have n2:(l.length:Int)<=(bJ:Int):=by unfold bJ;omega
 simp only[de n1,de n2]
 rw[iS (λk=>((l.take k).map λp=>List.replicate p.length (⟨0,0⟩:bn),(k:Int))) l.length (by omega) (by simp) (r:=l.map λp=>List.replicate p.length ⟨0,0⟩)]
 ·rfl
 ·intro k hk
  have hg:l[k]? =some (l[k]'hk):=dC hk
  generalize l[k]'hk=p at hg
  have hp:=h4 p (gx hg)
  have m1:(0:Int)<=(p.length:Int):=by omega
  have m2:(p.length:Int)<=(bJ:Int):=by unfold bJ;omega
  have m3:((l.take k).map λp=>List.replicate p.length (⟨0,0⟩:bn)).length<cO:=by simp[cO];omega
  simp only[cJ hg,cond_true,b9 hg,cH,dB (l:=l) (by simp only[bT];omega) hg,f47,de m1,de m2,de m3,nv,cN hg,CE]
  rfl
 ·simp
theorem Cc: ∀(p:List bV)(e:Int),CN e p=true->(∀(i:Nat)x,p[i]? =some x->e<=x.bX/\x.bX<x.dr/\x.dr<=262144/\0<=x.bW/\x.bW<=127)/\ ∀(i j:Nat)x y,i<j->p[i]? =some x->p[j]? =some y->x.dr<=y.bX
 | [],e,_=>⟨λi x h=>by simp at h,λi j x y _ h=>by simp at h⟩
 |t::r,e,h=>by
  simp only[CN,eW,pC,yp,oL,EH,decide_eq_false_iff_not,X9,decide_eq_true_eq]at h
  obtain⟨⟨⟨h1,h1'⟩,h2,h3,h4⟩,h5⟩:=h
  obtain⟨k1,k2⟩:=Cc r t.dr h5
  refine⟨λi x hx=>?_,λi j x y pz hx hy=>?_⟩
  ·cases i with
   |zero=>simp at hx;subst hx;omega
   |succ i=>have:=k1 i x (by simpa using hx);omega
  ·cases j with
   |zero=>omega
   |succ j=>
    cases i with
    |zero=>simp at hx;subst hx;exact(k1 j y (by simpa using hy)).1
    |succ i=>exact k2 i j x y (by omega) (by simpa using hx) (by simpa using hy)
def kv(p:List bV):List Int:=(p.flatMap (eL p)).foldl oM [0]
theorem HW(p:List bV):qf (kv p):=(nQ _ [0] (by simp[qf])).1
theorem ue(p:List bV)(y:Int):y∈kv p↔(∃x∈p,y∈eL p x)\/y=0:=by
 unfold kv
 rw[(nQ _ [0] (by simp[qf])).2 y]
 simp
theorem MG{p:List bV}{x:bV}(hx:x∈p):x.bX∈kv p:=by
 rw[ue]
 left
 refine⟨x,hx,?_⟩
 unfold eL
 cases fU p x.dr<;>simp
theorem JF{p:List bV}{y:Int}(h:y∈kv p):y=0\/ ∃x∈p,y=x.bX\/y=x.dr:=by
 rw[ue]at h
 rcases h with⟨x,hx,h⟩|h
 ·right
  refine⟨x,hx,?_⟩
  unfold eL at h
  cases hq:fU p x.dr<;>rw[hq]at h<;>simp at h
  ·exact h
  ·exact .inl h
 ·exact .inl h
theorem uf{l:List Int}(h:qf l){i j:Nat}{a b:Int}(pz:i<j)(ha:l[i]? =some a)(hb:l[j]? =some b):a<b:=by
 unfold qf at h
 rw[EN]at h
 obtain⟨hi,rfl⟩:=fM.1 ha
 obtain⟨hj,rfl⟩:=fM.1 hb
 exact h i j hi hj pz
theorem MH{l:List Int}(h:qf l){i:Nat}{a b y:Int}(ha:l[i]? =some a)(hb:l[i+1]? =some b)(hy:y∈l)(gh:a<y):b<=y:=by
 obtain⟨m,hm,rfl⟩:=pA hy
 have em:l[m]? =some l[m]:=dC hm
 rcases JR m (i+1)with h1|h1|h1
 ·rcases EI m i with h2|h2
  ·have:=uf h h2 em ha;omega
  ·have:m=i:=by omega
   subst this
   rw[ha]at em;have:=Option.some.inj em;omega
 ·subst h1
  rw[hb]at em;have:=Option.some.inj em;omega
 ·have:=uf h h1 hb em;omega
theorem Pj{p:List bV}:(kv p).length<=2*p.length+1:=by
 have h1:=uY (p.flatMap (eL p)) [0]
 have h2:=nO p p
 have h1:(kv p).length<=_:=h1
 simp only[oc,JQ]at h1
 omega
end Go.Proofs.YtpbahncblggodaaGreat
set_option linter.all false
namespace Go.Proofs.YtpbahncblggodaaGreat
open Go Go.Am Go.Sort
set_option maxRecDepth 100000
theorem wV: ∀{l:List cI},(∀s∈l,s∈gv)->l.length<=kB l
 | [],_=>by simp
 |s::l,h=>by
  have h1:=(js s (h s (by simp))).2.1
  have h2:=wV (l:=l) λx hx=>h x (by simp[hx])
  show l.length+1<=tk s+kB l
  omega
abbrev ZY:=List bn×List Int×List Int×List cg×List bF×List cp×List cK×List Int×List cg×List (List bn)×List cQ×Int
end Go.Proofs.YtpbahncblggodaaGreat
set_option linter.all false
namespace Go.Proofs.YtpbahncblggodaaGreat
open Go Go.Am Go.Sort
set_option maxRecDepth 100000
end Go.Proofs.YtpbahncblggodaaGreat
set_option linter.all false
namespace Go.Proofs.YtpbahncblggodaaGreat
open Go Go.Am Go.Sort
set_option maxRecDepth 1000000
theorem f10_eq:f10=some true:=by kernel_rfl
theorem f34_ex(l:List (List bV))(hs:bT l): ∃r,f34 l=some r/\r.1.length<=10000:=by
 unfold f34
 rw[f33_eq l hs]
 simp only[cH]
 by_cases h:jA l=0
 ·obtain⟨h6,hp⟩:=jW h
  have h4: ∀p∈l,p.length<=400:=λp CI=>(hp p CI).1
  have hf:=qe 6 h6 h4
  simp only[h,ne_eq,not_true_eq_false,decide_false,cond_false,f53_eq l h6 h4,cH]
  refine⟨_,rfl,?_⟩
  have:=(HN l.flatten l.flatten (by omega)).2
  show(rp l.flatten l.flatten).length<=10000
  omega
 ·simp only[ne_eq,h,not_false_eq_true,decide_true,cond_true]
  exact⟨_,rfl,by simp⟩
theorem f9_ex(j:fY)(hs:bT j.cu): ∃b,f9 j=some b/\True:=by
 unfold f9
 rw[f33_eq _ hs,f15_eq]
 refine gY (P1:=λb=>b=false->jA j.cu=0) ?_ ?_
 ·simp only[cH]
  by_cases h:jA j.cu=0
  ·simp only[h,ne_eq,not_true_eq_false,decide_false,cond_false]
   exact⟨_,rfl,λ_=>trivial⟩
  ·simp only[ne_eq,h,not_false_eq_true,decide_true,cond_true]
   exact⟨_,rfl,λh=>by cases h⟩
 intro b hb
 cases b
 case true=>exact⟨_,rfl,trivial⟩
 have DS:=hb rfl
 obtain⟨h6,hp⟩:=jW DS
 have ZG: ∀p∈j.cu,bT p:=λp CI=>by have:=(hp p CI).1;simp only[bT];omega
 simp only[cond_false]
 cases decide (4<(j.cu.length:Int))
 case true=>exact⟨_,rfl,trivial⟩
 simp only[cond_false]
 refine eO (λk(s:Int×Int)=>s.2=(k:Int)) (λ_=>True) j.cu.length hs rfl ?_ ?_ ?_
 ·rintro k ⟨s1,s2⟩ hk e
  simp only at e
  subst e
  have e1:j.cu[k]? =some (j.cu[k]'hk):=dC _
  simp only[cJ e1,cond_true,b9 e1,cH,dB hs e1]
  exact .inl ⟨_,rfl,rfl⟩
 ·rintro⟨s1,s2⟩ e
  simp only at e
  subst e
  simp only[kF,decide_false,cond_false]
  exact⟨_,rfl,trivial⟩
 intro n _
 cases decide (24<n)
 case true=>exact⟨_,rfl,trivial⟩
 simp only[cond_false]
 obtain⟨r,r1,r2⟩:=f34_ex j.cu hs
 have hr:bT r.1:=by simp only[bT];omega
 simp only[r1,cH]
 refine eO (λk(s:Int)=>s=(k:Int)) (λ_=>True) r.1.length hr rfl ?_ ?_ ?_
 ·rintro k s hk rfl
  have e1:r.1[k]? =some (r.1[k]'hk):=dC _
  generalize r.1[k]'hk=t at e1
  simp only[cJ e1,cond_true,b9 e1,dB hr e1]
  have key: ∃z,(bY (σ:=(Int×Int)) (τ:=Int) (λ((VW,Sw):(Int×Int))=>bif (decide (Sw<(j.cu.length:Int)))then((bY (σ:=(Int×Int)) (τ:=Int) (λ((Gc,yz):(Int×Int))=>(ix j.cu Sw).bind λPg=>bif (decide (yz<(Pg.length:Int)))then((((ix Pg yz).bind λJ0=>(((some t).bind λy15=>bif (decide (J0.bX=y15))then(bif (decide (-1000<j.shift))then(some (decide (j.shift<1000)))else(some false))else(some false)):Option Bool).bind λ(MI:Bool)=>bif MI then((f35 j.instrument (wr (J0.bW+j.shift))).bind λZZ=>some (wr (Gc*(kw 1 (ZZ.1.length:Int)))))else(some Gc)):Option Int).bind λ(Sx:Int)=>some (.inl (Sx,(wr (yz+1)))))else(some (.inr Gc))) cy (VW,0)).bind λ(VX:Int)=>some (.inl (VX,(wr (Sw+1)))))else(some (.inr VW))) cy (1,0))=some z/\True:=by
   refine jJ (λm(s:Int×Int)=>s.2=(m:Int)) (λ_=>True) j.cu.length hs rfl ?_ ?_
   ·rintro m ⟨s1,s2⟩ hm e
    simp only at e
    subst e
    have e2:j.cu[m]? =some (j.cu[m]'hm):=dC _
    have DS:=ZG _ (zo hm)
    generalize j.cu[m]'hm=p at e2 DS
    simp only[cJ e2,cond_true,b9 e2,cH,dB hs e2]
    have Z0: ∃z,(bY (σ:=(Int×Int)) (τ:=Int) (λ((Gc,yz):(Int×Int))=>bif (decide (yz<(p.length:Int)))then((((ix p yz).bind λJ0=>((bif (decide (J0.bX=t))then(bif (decide (-1000<j.shift))then(some (decide (j.shift<1000)))else(some false))else(some false)):Option Bool).bind λ(MI:Bool)=>bif MI then((f35 j.instrument (wr (J0.bW+j.shift))).bind λZZ=>some (wr (Gc*(kw 1 (ZZ.1.length:Int)))))else(some Gc)):Option Int).bind λ(Sx:Int)=>some (.inl (Sx,(wr (yz+1)))))else(some (.inr Gc))) cy (s1,0))=some z/\True:=by
     refine jJ (λm(s:Int×Int)=>s.2=(m:Int)) (λ_=>True) p.length DS rfl ?_ ?_
     ·rintro q ⟨s1,s2⟩ hq e
      simp only at e
      subst e
      have e3:p[q]? =some (p[q]'hq):=dC _
      simp only[cJ e3,cond_true,b9 e3,cH,dB DS e3,f35_eq]
      cases decide ((p[q]'hq).bX=t)
      ·exact .inl ⟨_,rfl,rfl⟩
      ·cases decide (-1000<j.shift)
       ·exact .inl ⟨_,rfl,rfl⟩
       ·cases decide (j.shift<1000)<;>exact .inl ⟨_,rfl,rfl⟩
     ·rintro⟨s1,s2⟩ e
      simp only at e
      subst e
      simp only[kF,decide_false,cond_false]
      exact⟨_,rfl,trivial⟩
    obtain⟨z,z1,_⟩:=Z0
    simp only[z1,cH]
    exact .inl ⟨_,rfl,rfl⟩
   ·rintro⟨s1,s2⟩ e
    simp only at e
    subst e
    simp only[kF,decide_false,cond_false]
    exact⟨_,rfl,trivial⟩
  obtain⟨z,z1,_⟩:=key
  rw[z1]
  simp only[cH]
  cases decide (300<z)
  ·exact .inl ⟨_,rfl,rfl⟩
  ·exact .inr ⟨_,rfl,trivial⟩
 ·rintro s rfl
  simp only[kF,decide_false,cond_false]
  exact⟨_,rfl,trivial⟩
 ·intro o _
  cases o<;>exact⟨_,rfl,trivial⟩
end Go.Proofs.YtpbahncblggodaaGreat
