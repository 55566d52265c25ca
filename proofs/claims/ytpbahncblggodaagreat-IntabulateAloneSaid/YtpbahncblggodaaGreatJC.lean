/-
  Plain laws, joined by gen/joinH.py.
  Own work. No Go text.
-/
import Derived.Test.YtpbahncblggodaaGreatJB
set_option linter.all false
namespace Go.Proofs.YtpbahncblggodaaGreat
open Go Go.Am Go.Sort
set_option maxRecDepth 100000
def sameP(x:GTone)(n:GNNote):Bool:=decide (n.pitch=x.pitch)
theorem f155_eq(l:List GNNote)(x:GTone)(hl:l.length<=4096):f155 l x=some (idxF (sameP x) l):=by
 unfold f155
 rw[loop_find l (sameP x) (λi _=>(i:Int)) (by simp only[Small];omega)]
 ·simp only[Option.bind_some,findS_idx,idxF]
  cases l.findIdx? _<;>simp
 ·intro i y hy
  have hi:=(List.getElem?_eq_some_iff.1 hy).1
  have n1:((i:Int)).toNat<famCap:=by unfold famCap;omega
  simp only[dltLen hy,cond_true,ixNat hy,Option.bind_some,needP n1,f156,sameP]
  cases decide (y.pitch=x.pitch)<;>rfl
 ·simp
def addM(i k:Int)(x:GTone)(n:GNNote):GNNote:=⟨n.members++[⟨i,k⟩],n.pitch,n.from_,maxI n.to_ x.to_,n.place,n.event⟩
def addN(t i k:Int)(l:List GNNote)(x:GTone):List GNNote:=
 if x.from_=t then(match l.findIdx? (sameP x)with
  |some j=>(match l[j]? with
   |some n=>l.set j (addM i k x n)
   |none=>l)
  |none=>l++[addM i k x ⟨[],x.pitch,t,0,⟨0,0⟩,0⟩])else l
def beginP(t i:Int):Nat->List GTone->List GNNote->List GNNote
 |_,[],l=>l
 |k,x::r,l=>beginP t i (k+1) r (addN t i (k:Int) l x)
def beginA(t:Int):Nat->List (List GTone)->List GNNote->List GNNote
 |_,[],l=>l
 |i,p::r,l=>beginA t (i+1) r (beginP t (i:Int) 0 p l)
theorem foldE_begin(t i:Int): ∀(r:List GTone)(k:Nat)(l:List GNNote),foldE (λk l x=>(.inl (addN t i (k:Int) l x):List GNNote⊕List GNNote)) (λl=>l) k r l=beginP t i k r l
 | [],k,l=>rfl
 |x::r,k,l=>by simp only[foldE,beginP,foldE_begin t i r]
theorem foldE_beginA(t:Int): ∀(r:List (List GTone))(k:Nat)(l:List GNNote),foldE (λi l p=>(.inl (beginP t (i:Int) 0 p l):List GNNote⊕List GNNote)) (λl=>l) k r l=beginA t k r l
 | [],k,l=>rfl
 |x::r,k,l=>by simp only[foldE,beginA,foldE_beginA t r]
def Few(b:Nat)(l:List GNNote):Prop:=l.length<=b/\ ∀n∈l,n.members.length<=b
theorem addN_few{t i k:Int}{b:Nat}{l:List GNNote}{x:GTone}(h:Few b l):Few (b+1) (addN t i k l x):=by
 obtain⟨h1,h2⟩:=h
 unfold addN
 split
 ·split
  ·split
   ·rename_i j _ n hn
    refine⟨by simp;omega,λm hm=>?_⟩
    rcases List.mem_or_eq_of_mem_set hm with hm|rfl
    ·have:=h2 m hm;omega
    ·have:=h2 n (List.mem_of_getElem? hn)
     simp[addM];omega
   ·exact⟨by omega,λm hm=>by have:=h2 m hm;omega⟩
  ·refine⟨by simp;omega,λm hm=>?_⟩
   rcases List.mem_append.1 hm with hm|hm
   ·have:=h2 m hm;omega
   ·simp at hm;subst hm;simp[addM]
 ·exact⟨by omega,λm hm=>by have:=h2 m hm;omega⟩
theorem beginP_few{t i:Int}: ∀{p:List GTone}{k b:Nat}{l:List GNNote},Few b l->Few (b+p.length) (beginP t i k p l)
 | [],k,b,l,h=>h
 |x::r,k,b,l,h=>by
  have:=beginP_few (t:=t) (i:=i) (p:=r) (k:=k+1) (addN_few (t:=t) (i:=i) (k:=(k:Int)) (x:=x) h)
  simp only[beginP,List.length_cons]
  rw[show b+(r.length+1)=b+1+r.length by omega]
  exact this
theorem f96_eq(parts:List (List GTone))(t:Int)(h6:parts.length<=6)(h4: ∀p∈parts,p.length<=400):f96 parts t=some (beginA t 0 parts []):=by
 unfold f96
 have h:=loop_fold (body:=λ((l1_f20002,l1_13):(List GNNote×Int))=>bif (decide (l1_13<(parts.length:Int)))then((ix parts l1_13).bind λy2=>(loopN (σ:=(List GNNote×Int)) (τ:=(List GNNote)) (λ((l2_f40004,l2_20):(List GNNote×Int))=>bif (decide (l2_20<(y2.length:Int)))then((((ix y2 l2_20).bind λy4=>bif (decide (y4.from_≠t))then(some l2_f40004)else((f155 l2_f40004 y4).bind λr6=>((bif (decide (r6<0))then(need (l2_f40004.length<famCap)<|some ((l2_f40004++[(⟨([]:List GNMember),y4.pitch,t,0,(⟨0,0⟩:GPlace),0⟩:GNNote)]),(l2_f40004.length:Int)))else(some (l2_f40004,r6))):Option (List GNNote×Int)).bind λ((j4_f140019,j4_9):(List GNNote×Int))=>(ix j4_f140019 j4_9).bind λy9=>need (j4_9.toNat<famCap)<|need (y9.members.length+1<=maxElems)<|some (j4_f140019.set j4_9.toNat (⟨(y9.members++([(⟨l1_13,l2_20⟩:GNMember)]:List GNMember)),y9.pitch,y9.from_,(maxI y9.to_ y4.to_),y9.place,y9.event⟩:GNNote)))):Option (List GNNote)).bind λ(j3_f180027:(List GNNote))=>some (.inl (j3_f180027,(wr (l2_20+1)))))else(some (.inr l2_f40004))) FUEL (l1_f20002,0)).bind λ(l2x_f40004:(List GNNote))=>some (.inl (l2x_f40004,(wr (l1_13+1)))))else(some (.inr l1_f20002)))
  (λa i=>(a,i)) (λi l p=>(.inl (beginP t (i:Int) 0 p l):List GNNote⊕List GNNote)) (λl=>l) parts (λi l=>Few (400*i) l) [] (small_fuel (by simp only[Small];omega)) ⟨by simp,by simp⟩ ?_ ?_
 ·rw[h,foldE_beginA]
  rfl
 ·intro i l p hp hi
  have hp4:=h4 p (List.mem_of_getElem? hp)
  have hi6:=(List.getElem?_eq_some_iff.1 hp).1
  have hsp:Small parts:=by simp only[Small];omega
  have hpp:Small p:=by simp only[Small];omega
  refine⟨?_,λa' ha'=>?_⟩
  ·simp only[dltLen hp,cond_true,ixNat hp,Option.bind_some,wrLen hsp hp]
   have h2:=loop_fold (body:=λ((l2_f40004,l2_20):(List GNNote×Int))=>bif (decide (l2_20<(p.length:Int)))then((((ix p l2_20).bind λy4=>bif (decide (y4.from_≠t))then(some l2_f40004)else((f155 l2_f40004 y4).bind λr6=>((bif (decide (r6<0))then(need (l2_f40004.length<famCap)<|some ((l2_f40004++[(⟨([]:List GNMember),y4.pitch,t,0,(⟨0,0⟩:GPlace),0⟩:GNNote)]),(l2_f40004.length:Int)))else(some (l2_f40004,r6))):Option (List GNNote×Int)).bind λ((j4_f140019,j4_9):(List GNNote×Int))=>(ix j4_f140019 j4_9).bind λy9=>need (j4_9.toNat<famCap)<|need (y9.members.length+1<=maxElems)<|some (j4_f140019.set j4_9.toNat (⟨(y9.members++([(⟨(i:Int),l2_20⟩:GNMember)]:List GNMember)),y9.pitch,y9.from_,(maxI y9.to_ y4.to_),y9.place,y9.event⟩:GNNote)))):Option (List GNNote)).bind λ(j3_f180027:(List GNNote))=>some (.inl (j3_f180027,(wr (l2_20+1)))))else(some (.inr l2_f40004)))
    (λa i=>(a,i)) (λk l x=>(.inl (addN t (i:Int) (k:Int) l x):List GNNote⊕List GNNote)) (λl=>l) p (λk l=>Few (400*i+k) l) l (small_fuel hpp) hi ?_ ?_
   ·rw[foldE_begin]at h2
    simp only[h2,Option.bind_some]
    rfl
   ·intro k l x hx hF
    have hk:=(List.getElem?_eq_some_iff.1 hx).1
    obtain⟨f1,f2⟩:=hF
    refine⟨?_,λa' ha'=>?_⟩
    ·simp only[dltLen hx,cond_true,ixNat hx,Option.bind_some,wrLen hpp hx,f155_eq l x (by omega)]
     unfold addN
     by_cases c1:x.from_=t
     ·simp only[c1,ne_eq,not_true_eq_false,decide_false,cond_false,if_true]
      cases hf:l.findIdx? (sameP x)with
      |none=>
       have hid:idxF (sameP x) l= -1:=by unfold idxF;rw[hf]
       have m1:l.length<famCap:=by unfold famCap;omega
       have g1:(l++[(⟨[],x.pitch,t,0,⟨0,0⟩,0⟩:GNNote)])[l.length]? =some ⟨[],x.pitch,t,0,⟨0,0⟩,0⟩:=by simp
       have m2:([]:List GNMember).length+1<=maxElems:=by simp;unfold maxElems;omega
       have c2:((-1:Int)<0):=by omega
       simp only[hid,c2,decide_true,cond_true,needP m1,Option.bind_some,ixNat g1,Int.toNat_natCast,needP m2]
       simp only[stepW,List.set_append_right l.length _ (Nat.le_refl _),Nat.sub_self,List.set_cons_zero]
       rfl
      |some j=>
       obtain⟨hj,_⟩:=List.findIdx?_eq_some_iff_getElem.1 hf
       have hid:idxF (sameP x) l=(j:Int):=by unfold idxF;rw[hf]
       have g1:l[j]? =some (l[j]'hj):=List.getElem?_eq_getElem _
       have hmem:=f2 _ (List.getElem_mem hj)
       have m1:j<famCap:=by unfold famCap;omega
       have m2:(l[j]'hj).members.length+1<=maxElems:=by unfold maxElems;omega
       have c2: ¬((j:Int)<0):=by omega
       simp only[hid,c2,decide_false,cond_false,Option.bind_some,ixNat g1,g1,Int.toNat_natCast,needP m1,needP m2,stepW]
       rfl
     ·simp only[c1,ne_eq,not_false_eq_true,decide_true,cond_true,if_false,Option.bind_some,stepW]
    ·cases ha'
     have:=addN_few (t:=t) (i:=(i:Int)) (k:=(k:Int)) (x:=x) (b:=400*i+k) (l:=l) ⟨f1,f2⟩
     exact this
   ·intro a _
    simp
  ·cases ha'
   have hF:Few (400*i) l:=hi
   have:=beginP_few (t:=t) (i:=(i:Int)) (p:=p) (k:=0) hF
   obtain⟨g1,g2⟩:=this
   exact⟨by omega,λn hn=>by have:=g2 n hn;omega⟩
 ·intro a _
  simp
theorem beginP_none{t i:Int}: ∀{p:List GTone}{k:Nat}{l:List GNNote},(∀x∈p,x.from_≠t)->beginP t i k p l=l
 | [],k,l,_=>rfl
 |x::r,k,l,h=>by
  simp only[beginP]
  rw[show addN t i (k:Int) l x=l by unfold addN;rw[if_neg (h x (by simp))]]
  exact beginP_none λy hy=>h y (by simp[hy])
theorem beginP_append{t i:Int}: ∀{p q:List GTone}{k:Nat}{l:List GNNote},beginP t i k (p++q) l=beginP t i (k+p.length) q (beginP t i k p l)
 | [],q,k,l=>rfl
 |x::r,q,k,l=>by
  simp only[List.cons_append,beginP,List.length_cons]
  rw[beginP_append,show k+1+r.length=k+(r.length+1)by omega]
theorem begin_one{t:Int}{p a b:List GTone}{x:GTone}(hp:p=a++x::b)(ha: ∀y∈a,y.from_≠t)(hb: ∀y∈b,y.from_≠t)(hx:x.from_=t):beginA t 0 [p] []=[⟨[⟨0,(a.length:Int)⟩],x.pitch,t,maxI 0 x.to_,⟨0,0⟩,0⟩]:=by
 subst hp
 simp only[beginA]
 rw[beginP_append,beginP_none ha]
 simp only[beginP]
 rw[beginP_none hb]
 simp[addN,hx,addM]
theorem begin_none{t:Int}{p:List GTone}(h: ∀x∈p,x.from_≠t):beginA t 0 [p] []=[]:=by
 simp only[beginA]
 exact beginP_none h
theorem f157_nil:f157 []=some []:=by
 unfold f157 f217 f263
 have c1: ¬((20:Int)<=(([]:List GNNote).length:Int)):=by simp
 have c2: ¬((20:Int)<(([]:List GNNote).length:Int)):=by simp
 have c3: ¬(wr ((0:Int)+1)<(([]:List GNNote).length:Int)):=by rw[wrI (by omega) (by omega)];simp
 rw[loop_out (r:=(([]:List GNNote),(0:Int))) (by simp only[c1,decide_false,cond_false]) _ (by unfold FUEL;omega)]
 simp only[Option.bind_some]
 rw[loop_out (r:=([]:List GNNote)) (by simp only[c3,decide_false,cond_false]) _ (by unfold FUEL;omega)]
 simp only[Option.bind_some,need,if_true]
 rw[loop_out (r:=([]:List GNNote)) (by simp only[c2,decide_false,cond_false]) _ (by unfold FUEL;omega)]
 rfl
theorem f97_nil(d:GNDesk)(t:Int)(hl:Small d.live)(h: ∀n∈d.live,¬t<n.to_):f97 d t=some []:=by
 have key: ∃r,f97 d t=some r/\r=[]:=by
  unfold f97
  refine loopB (λk(s:List GNNote×Int)=>s.2=(k:Int)/\s.1=[]) (λr=>r=[]) d.live.length hl ⟨rfl,rfl⟩ ?_ ?_ ?_
  ·rintro k ⟨s1,s2⟩ hk ⟨e0,e1⟩
   simp only at e0 e1
   subst e0;subst e1
   have x1:d.live[k]? =some (d.live[k]'hk):=List.getElem?_eq_getElem _
   have c1:=h _ (List.getElem_mem hk)
   simp only[dltLen x1,cond_true,ixNat x1,Option.bind_some,wrLen hl x1,c1,decide_false,cond_false]
   exact .inl ⟨_,rfl,rfl,rfl⟩
  ·rintro⟨s1,s2⟩ ⟨e0,e1⟩
   simp only at e0 e1
   subst e0;subst e1
   simp only[Int.lt_irrefl,decide_false,cond_false]
   exact⟨_,rfl,rfl⟩
  ·rintro r rfl
   simp only[f157_nil,Option.bind_some,need,if_true]
   exact⟨_,rfl,rfl⟩
 obtain⟨r,h1,rfl⟩:=key
 exact h1
end Go.Proofs.YtpbahncblggodaaGreat
set_option linter.all false
namespace Go.Proofs.YtpbahncblggodaaGreat
open Go Go.Am Go.Sort
set_option maxRecDepth 100000
theorem f60_nil(h:GHand)(hh:HandOk h)(c:GChord)(hd:c.down=[])(ho:Small c.open_): ∃l,f60 h c=some l/\(l.length:Int)=h.top:=by
 have t2:=hh.t2
 have t1:=hh.t1
 have hb:=fuel_big
 obtain⟨b,hb1,hb2⟩:=f121_ex h c [] hh.n4 hh.ba (by simp[hd]) (by simp[Small,hd]) ho
 have hb2:=hb2 (by simp)
 subst hb2
 unfold f60
 refine loopB (λk(s:List GGrip×List Int×Int)=>s.2.1=[]/\s.2.2=((k+1:Nat):Int)/\s.1.length=k) (λl=>(l.length:Int)=h.top) h.top.toNat (by omega) ⟨rfl,rfl,rfl⟩ ?_ ?_ ?_
 ·rintro k ⟨s1,s2,s3⟩ hk ⟨e1,e2,h1⟩
  simp only at e1 e2 h1
  subst e1;subst e2
  have c0:((k+1:Nat):Int)<=h.top:=by omega
  have m1:s1.length+1<=maxElems:=by unfold maxElems;omega
  have hF:FUEL=(FUEL-1)+1:=by omega
  have hz2:(([]:List Int).length:Int)=(c.down.length:Int):=by simp[hd]
  simp only[c0,decide_true,cond_true,f120]
  rw[hF]
  simp only[f120r,hz2,decide_true,cond_true,hb1,Option.bind_some,f45_1_eq [] (by simp[Small]),needP m1]
  rw[wrNat (by omega)]
  exact .inl ⟨_,rfl,rfl,rfl,by simp[h1]⟩
 ·rintro⟨s1,s2,s3⟩ ⟨e1,e2,h1⟩
  simp only at e1 e2 h1
  subst e1;subst e2
  have c0: ¬(((h.top.toNat+1:Nat):Int)<=h.top):=by omega
  simp only[c0,decide_false,cond_false]
  exact⟨_,rfl,by omega⟩
 ·intro l hl
  exact⟨l,rfl,hl⟩
theorem rightC_nil:RightC ⟨[],[],[]⟩:=⟨λi p q h=>by simp at h,by simp,λi a b h=>by simp at h,λi a b h=>by simp at h,by simp,by simp⟩
theorem maxI_le{a b c:Int}(h1:a<=c)(h2:b<=c):maxI a b<=c:=by unfold maxI;split<;>omega
structure DeskA (d:GNDesk):Prop where
 dh:DeskH d
 jt:d.h.jump=d.h.top
 dl:d.chord.down.length<=1
 ol:d.chord.open_.length<=14
 rc:RightC d.chord
 po:d.piece.events.length≠0->d.possible≠[]/\ ∃L,f60 d.h d.chord=some L/\L.length<=200/\ ∀g∈d.possible,g∈L
theorem openC_len{c:GChord}(h:RightC c):c.open_.length<=14:=by
 have key: ∀(i:Nat)x,c.open_[i]? =some x->(i:Int)+1<=x:=by
  intro i
  induction i with
  |zero=>intro p hp;have:=h.oo p (List.mem_of_getElem? hp);omega
  |succ i ih=>
   intro p hp
   have hi:=(List.getElem?_eq_some_iff.1 hp).1
   have e1:c.open_[i]? =some (c.open_[i]'(by omega)):=List.getElem?_eq_getElem _
   have:=ih _ e1
   have:=h.oa i _ p e1 hp
   omega
 rcases Nat.lt_or_ge 14 c.open_.length with hl|hl
 ·have e1:c.open_[14]? =some (c.open_[14]'hl):=List.getElem?_eq_getElem _
  have h1:=key 14 _ e1
  have h2:=h.oo _ (List.mem_of_getElem? e1)
  omega
 ·exact hl
theorem steps_free{d:GNDesk}(ha:DeskA d){x:GChord}(hx:RightC x)(hh:x.held=[]){g k:GGrip}(hg:Fit d.h d.chord g)(hk:Fit d.h x k):Steps d.h d.chord g x k:=by
 have t2:=ha.dh.hh.t2
 have g1:=hg.p1
 have g2:=hg.p2
 have k1:=hk.p1
 have k2:=hk.p2
 refine⟨ha.rc,hx,λy hy=>by rw[hh]at hy;simp at hy,hg,hk,λy hy=>by rw[hh]at hy;simp at hy,λ⟨_,_,h⟩=>?_⟩
 rw[wrI (by omega) (by omega),wrI (by omega) (by omega)]at h
 have:=maxI_le (a:=g.pos-k.pos) (b:=k.pos-g.pos) (c:=d.h.top-1) (by omega) (by omega)
 rw[ha.jt]at h
 omega
theorem reach_free{d:GNDesk}(ha:DeskA d){x:GChord}(hs:SmallC x)(hx:RightC x)(hh:x.held=[]){L:List GGrip}(hL:f60 d.h x=some L)(hl:L.length<=200)(hne:L≠[]){l:List GGrip}(hr:f161 d x=some l):l≠[]:=by
 obtain⟨l',e1,_,_,_,_,h5⟩:=f161_ex d ha.dh x hs
 rw[hr]at e1;cases e1
 obtain⟨k,r,rfl⟩: ∃k r,L=k::r:=by
  cases L with
  |nil=>exact absurd rfl hne
  |cons k r=>exact⟨k,r,rfl⟩
 have hF: ∀g∈k::r,Fit d.h x g:=by
  obtain⟨L',f1,_,f2⟩:=f60_ex d.h ha.dh.hh x hx.len hs.o
  rw[hL]at f1;cases f1;exact f2
 intro h0
 subst h0
 have:=h5 hx _ hL hl k (by simp) ?_
 ·simp at this
 ·by_cases he:d.piece.events.length=0
  ·exact .inl he
  ·right
   obtain⟨p1,LL,p2,p3,p4⟩:=ha.po he
   obtain⟨g,rg,hg⟩: ∃g rg,d.possible=g::rg:=by
    cases hp:d.possible with
    |nil=>exact absurd hp p1
    |cons g rg=>exact⟨g,rg,rfl⟩
   have hgm:g∈d.possible:=by rw[hg];simp
   obtain⟨L',f1,_,f2⟩:=f60_ex d.h ha.dh.hh d.chord ha.rc.len ha.dh.ch.o
   rw[p2]at f1;cases f1
   exact⟨g,hgm,steps_free ha hx hh (f2 g (p4 g hgm)) (hF k (by simp))⟩
theorem heldC_right{d:GNDesk}(ha:DeskA d)(tie:Bool):RightC (heldC d tie):=by
 unfold heldC
 cases tie
 ·exact rightC_nil
 ·have hr:=ha.rc
  refine⟨hr.da,hr.dc,λi a b h1 h2=>?_,hr.oa,λx hx=>?_,hr.oo⟩
  ·simp only[if_true]at h1 h2
   rw[List.getElem?_map]at h1 h2
   obtain⟨p,e1,rfl⟩:=Option.map_eq_some_iff.1 h1
   obtain⟨q,e2,rfl⟩:=Option.map_eq_some_iff.1 h2
   exact hr.da i p q e1 e2
  ·simp only[if_true]at hx ⊢
   obtain⟨p,e1,rfl⟩:=List.mem_map.1 hx
   exact List.any_eq_true.2 ⟨p,e1,by simp[onC]⟩
def waitD(d:GNDesk)(s:GSign)(tie:Bool)(g:List GGrip):GNDesk:=⟨heldC d tie,d.in_,d.h,d.shift,⟨d.piece.instrument,d.piece.events++[⟨false,s,tie,[]⟩]⟩,d.live,g⟩
theorem wait_ex{d:GNDesk}(ha:DeskA d)(s:GSign)(tie:Bool)(he:d.piece.events.length<famCap)(ht:tie=true->d.piece.events.length≠0):
  ∃g,f99 d s tie=some ((heldC d tie).down,(heldC d tie).held,(heldC d tie).open_,d.piece.events++[⟨false,s,tie,[]⟩],g)/\DeskA (waitD d s tie g):=by
 obtain⟨g,h1,h2⟩:=f99_ex d ha.dh s tie he
 refine⟨g,h2,?_⟩
 have hR:=heldC_right ha tie
 have hS:=heldC_small d ha.dh.ch tie
 obtain⟨l',e1,g1,g2,g3,g4,g5⟩:=f161_ex d ha.dh (heldC d tie) hS
 rw[h1]at e1;cases e1
 have hne:g≠[]:=by
  cases tie with
  |false=>
   obtain⟨L,l1,l2⟩:=f60_nil d.h ha.dh.hh (heldC d false) (by simp[heldC]) (by simp[heldC,Small])
   have t1:=ha.dh.hh.t1
   have t2:=ha.dh.hh.t2
   exact reach_free ha hS hR (by simp[heldC]) l1 (by omega) (λh=>by subst h;simp at l2;omega) h1
  |true=>
   obtain⟨p1,L,p2,p3,p4⟩:=ha.po (ht rfl)
   obtain⟨k,rk,hk⟩: ∃g rg,d.possible=g::rg:=by
    cases hp:d.possible with
    |nil=>exact absurd hp p1
    |cons g rg=>exact⟨g,rg,rfl⟩
   have hkm:k∈d.possible:=by rw[hk];simp
   have hc:f60 d.h (heldC d true)=some L:=by
    rw[<-p2]
    exact f60_cong d.h _ _ rfl λfs _=>f121_cong d.h _ _ fs rfl rfl
   obtain⟨L',f1,_,f2⟩:=f60_ex d.h ha.dh.hh d.chord ha.rc.len ha.dh.ch.o
   rw[p2]at f1;cases f1
   have fk:=f2 k (p4 k hkm)
   have fk':Fit d.h (heldC d true) k:=by
    refine⟨fk.p1,fk.p2,fk.len,⟨fk.fit.len,fk.fit.fit,fk.fit.agr⟩,?_⟩
    rw[<-fk.sp]
    exact f121_cong d.h _ _ _ rfl rfl
   have:=g5 hR L hc p3 k (p4 k hkm) (.inr ⟨k,hkm,ha.rc,hR,λx hx=>?_,fk,fk',λx hx i j hi hj=>?_,λ⟨_,_,h⟩=>?_⟩)
   ·exactλh=>by rw[h]at this;simp at this
   ·have hx':(heldC d true).down.any (onC x)=true:=hR.hd x hx
    obtain⟨i,p,i1,i2,_⟩:=idx_get hx'
    exact⟨i,i,p,i1,i1,i2,i2⟩
   ·have:(heldC d true).down=d.chord.down:=rfl
    rw[this]at hj
    have:i=j:=by omega
    rw[this]
   ·have j1:=ha.dh.hh.j1
    have e:wr (k.pos-k.pos)=0:=by rw[wrI (by omega) (by omega)];omega
    rw[e]at h
    have:=maxI_le (a:=0) (b:=0) (c:=0) (by omega) (by omega)
    omega
 obtain⟨r1,L,r2,r3,r4⟩:=g3 hne
 refine⟨⟨ha.dh.hh,ha.dh.h0,hS,g1,λk hk=>by have:=(g2 k hk).len;have:=hS.d;simp only[Small]at this ⊢;omega⟩,ha.jt,?_,openC_len hR,hR,λ_=>⟨hne,L,r2,r3,r4⟩⟩
 show(heldC d tie).down.length<=1
 unfold heldC
 cases tie
 ·simp
 ·exact ha.dl
end Go.Proofs.YtpbahncblggodaaGreat
set_option linter.all false
namespace Go.Proofs.YtpbahncblggodaaGreat
open Go Go.Am Go.Sort
set_option maxRecDepth 100000
theorem stepsS_asc: ∀(l:List Int)(e:Int),stepsS e l=true->(∀(i:Nat)x,l[i]? =some x->e<x/\x<=127)/\ ∀(i j:Nat)x y,i<j->l[i]? =some x->l[j]? =some y->x<y
 | [],e,_=>⟨λi x h=>by simp at h,λi j x y _ h=>by simp at h⟩
 |a::r,e,h=>by
  simp only[stepsS,Bool.and_eq_true,Bool.not_eq_true',Bool.or_eq_false_iff,decide_eq_false_iff_not]at h
  obtain⟨⟨h1,h2⟩,h3⟩:=h
  obtain⟨k1,k2⟩:=stepsS_asc r a h3
  refine⟨λi x hx=>?_,λi j x y hij hx hy=>?_⟩
  ·cases i with
   |zero=>simp at hx;subst hx;omega
   |succ i=>have:=k1 i x (by simpa using hx);omega
  ·cases j with
   |zero=>omega
   |succ j=>
    cases i with
    |zero=>simp at hx;subst hx;exact(k1 j y (by simpa using hy)).1
    |succ i=>exact k2 i j x y (by omega) (by simpa using hx) (by simpa using hy)
theorem soundS_lt{s:List Int}(hs:stepsS 0 s=true){c:GCourse}(hp:0<=c.pitch/\c.pitch<=127){i j:Nat}(hij:i<j)(hj:j<=s.length):soundS s c i<soundS s c j:=by
 obtain⟨k1,k2⟩:=stepsS_asc s 0 hs
 have ej:s[j-1]? =some (s[j-1]'(by omega)):=List.getElem?_eq_getElem _
 have hj1:=k1 _ _ ej
 have vj:soundS s c j=c.pitch+s[j-1]'(by omega):=by
  unfold soundS
  rw[if_neg (by omega),ej,Option.getD_some,wrI (by omega) (by omega)]
 rw[vj]
 by_cases hi:i=0
 ·subst hi
  unfold soundS
  rw[if_pos rfl]
  omega
 ·have ei:s[i-1]? =some (s[i-1]'(by omega)):=List.getElem?_eq_getElem _
  have hi1:=k1 _ _ ei
  have vi:soundS s c i=c.pitch+s[i-1]'(by omega):=by
   unfold soundS
   rw[if_neg hi,ei,Option.getD_some,wrI (by omega) (by omega)]
  have:=k2 (i-1) (j-1) _ _ (by omega) ei ej
  rw[vi]
  omega
theorem filter_one{α:Type}{p:α->Bool}: ∀{l:List α},l.Pairwise (λa b=> ¬(p a=true/\p b=true))->(l.filter p).length<=1
 | [],_=>by simp
 |a::r,h=>by
  rw[List.pairwise_cons]at h
  cases hp:p a with
  |false=>simp only[List.filter_cons,hp];exact filter_one h.2
  |true=>
   have:r.filter p=[]:=by
    rw[List.filter_eq_nil_iff]
    intro b hb hpb
    exact h.1 b hb ⟨hp,hpb⟩
   simp[List.filter_cons,hp,this]
theorem rowS_one{s:List Int}(hs:stepsS 0 s=true){p:Int}{i:Nat}{c:GCourse}(hp:0<=c.pitch/\c.pitch<=127){n:Nat}(hn:n<=s.length+1):(rowS s p i c n).length<=1:=by
 unfold rowS
 rw[List.length_map]
 refine filter_one ?_
 have hr:(List.range n).Pairwise (· < ·):=List.pairwise_lt_range
 have hr2:(List.range n).Pairwise λa b=>a<b/\a<n/\b<n:=by
  rw[List.pairwise_iff_getElem]at hr ⊢
  intro a b ha hb hab
  have:=hr a b ha hb hab
  simp at ha hb
  simp at this ⊢
  omega
 refine hr2.imp λ{a b}h1 h2=>?_
 obtain⟨e1,e2⟩:=h2
 simp at e1 e2
 have:=soundS_lt hs hp h1.1 (by omega)
 omega
theorem placesL_one{s:List Int}(hs:stepsS 0 s=true)(p:Int): ∀(l:List GCourse)(i:Nat),(∀c∈l,courseS s c=0)->(placesL s p i l).length<=l.length
 | [],i,_=>by simp[placesL]
 |c::r,i,h=>by
  obtain⟨q1,q2,q3,q4,_⟩:=courseS_ok (h c (by simp))
  have h1:=rowS_one hs (p:=p) (i:=i) ⟨q3,q4⟩ (n:=c.frets.toNat+1) (by omega)
  have h2:=placesL_one hs p r (i+1) λc hc=>h c (by simp[hc])
  simp only[placesL,List.length_append,List.length_cons]
  omega
theorem placesL_mem{s:List Int}{p:Int}: ∀{l:List GCourse}{i:Nat}{x:GPlace},x∈placesL s p i l-> ∃(k:Nat)(c:GCourse),l[k]? =some c/\x.course=((i+k+1:Nat):Int)/\0<=x.fret/\x.fret<=(c.frets.toNat:Int)/\soundS s c x.fret.toNat=p
 | [],i,x,h=>by simp[placesL]at h
 |c::r,i,x,h=>by
  simp only[placesL,List.mem_append]at h
  rcases h with h|h
  ·unfold rowS at h
   obtain⟨k,h1,rfl⟩:=List.mem_map.1 h
   simp at h1
   exact⟨0,c,rfl,by simp,by simp,by simp;omega,by simpa using h1.2⟩
  ·obtain⟨k,c',h1,h2,h3⟩:=placesL_mem h
   exact⟨k+1,c',by simpa using h1,by rw[h2];congr 1;omega,h3⟩
theorem place_ok{a:GInstrument}{q:Int}{p:GPlace}(h:p∈(placesS a q).1):instS a=0/\1<=p.course/\p.course<=14/\0<=p.fret/\p.fret<=18/\ ∃c,a.courses[(p.course-1).toNat]? =some c/\p.fret<=c.frets/\soundS a.steps c p.fret.toNat=q:=by
 unfold placesS at h
 by_cases hi:instS a=0
 ·obtain⟨h1,h2,_,_,h5⟩:=instS_ok hi
  simp only[hi,if_true]at h
  cases hb:(decide (q<0)||decide (127<q))
  ·rw[hb]at h
   simp only[cond_false]at h
   obtain⟨k,c,k1,k2,k3,k4,k5⟩:=placesL_mem h
   have hk:=(List.getElem?_eq_some_iff.1 k1).1
   have hc:=courseS_ok (h5 c (List.mem_of_getElem? k1))
   refine⟨hi,by omega,by omega,k3,by omega,c,?_,by omega,k5⟩
   have:(p.course-1).toNat=k:=by omega
   rw[this];exact k1
  ·rw[hb]at h
   simp at h
 ·simp[hi]at h
theorem placesS_14(a:GInstrument)(q:Int):(placesS a q).1.length<=14:=by
 unfold placesS
 by_cases hi:instS a=0
 ·obtain⟨h1,h2,_,h4,h5⟩:=instS_ok hi
  have:=placesL_one h4 q a.courses 0 h5
  simp only[hi,if_true]
  generalize(decide (q<0)||decide (127<q))=b
  cases b<;>simp <;>omega
 ·simp[hi]
def AllH(h:GHand)(a:GInstrument):Prop:= ∀(i:Nat)c,a.courses[i]? =some c-> ∀f:Int,1<=f->f<=c.frets-> ∃l,f16 h ⟨[⟨((i+1:Nat):Int),f⟩],[],[]⟩=some (l,0)/\l≠[]
theorem ways_one(a:GInstrument)(s:Int)(n:GNNote):ways a s [n] [false] []=bif decide ((placesS a (wr (n.pitch+s))).2≠0)then []else(placesS a (wr (n.pitch+s))).1.map λp=>[p]:=by
 simp only[ways,cond_false,List.any_nil,Bool.not_false,List.nil_append]
 congr 1
 rw[List.filter_eq_self.2 (λ_ _=>rfl)]
 exact(List.map_eq_flatMap).symm
theorem keepN_nil(cut:List Bool):keepN [] cut=[]:=by simp[keepN]
theorem sorted_asc: ∀{l:List Int},l.Pairwise (· <= ·)->l.Nodup->ascI l:=λ{l}h1 h2 i a b ha hb=>by
 rw[List.pairwise_iff_getElem]at h1
 obtain⟨hi,rfl⟩:=List.getElem?_eq_some_iff.1 ha
 obtain⟨hj,rfl⟩:=List.getElem?_eq_some_iff.1 hb
 have h3:=h1 i (i+1) hi hj (by omega)
 have h4:l[i]≠l[i+1]:=λe=>by
  rw[List.nodup_iff_pairwise_ne,List.pairwise_iff_getElem]at h2
  exact h2 i (i+1) hi hj (by omega) e
 omega
theorem ascI_nodup{l:List Int}(h:ascI l):l.Nodup:=by
 have key: ∀(d i:Nat)a b,l[i]? =some a->l[i+d+1]? =some b->a<b:=by
  intro d
  induction d with
  |zero=>intro i a b ha hb;exact h i a b ha hb
  |succ d ih=>
   intro i a b ha hb
   have hj:=(List.getElem?_eq_some_iff.1 hb).1
   have e1:l[i+d+1]? =some (l[i+d+1]'(by omega)):=List.getElem?_eq_getElem _
   have:=ih i a _ ha e1
   have:=h (i+d+1) _ b e1 hb
   omega
 rw[List.nodup_iff_pairwise_ne,List.pairwise_iff_getElem]
 intro i j hi hj hij e
 obtain⟨d,rfl⟩: ∃d,j=i+d+1:=⟨j-i-1,by omega⟩
 have:=key d i _ _ (List.getElem?_eq_getElem hi) (List.getElem?_eq_getElem hj)
 omega
theorem chord_one{d:GNDesk}(ha:DeskA d){p:GPlace}(h1:1<=p.course)(h2:p.course<=14)(h3:0<=p.fret)(h4:p.fret<=18){x:GChord}(hx:f160 d ⟨[p],[]⟩ []=some x):
  SmallC x/\RightC x/\x.held=[]/\((p.fret=0/\x.down=[])\/(0<p.fret/\x.down=[p])):=by
 have hol:=ha.ol
 have hdl: ∀x∈downL ⟨[p],[]⟩ [],∀y∈downL ⟨[p],[]⟩ [],x.course=y.course->x=y:=by
  intro x hx y hy _
  unfold downL at hx hy
  simp only[keepN_nil,List.map_nil,List.nil_append,List.mem_filter,List.mem_singleton]at hx hy
  rw[hx.1,hy.1]
 obtain⟨x',e1,e2,e3,e4,e5⟩:=f160_ex d ha.dh.ch ⟨[p],[]⟩ [] rfl (by simp) (by simp) (by omega) hdl
 rw[hx]at e1;cases e1
 have hS:SmallC x:=f160_small d ⟨[p],[]⟩ [] (by simp) (by simp) (by omega) ⟨e2,e3,e4,e5⟩
 have hh:x.held=[]:=by rw[e4];simp[keepN_nil,sortS]
 have hdown:(p.fret=0/\x.down=[])\/(0<p.fret/\x.down=[p]):=by
  by_cases hf:0<p.fret
  ·right
   have:downL ⟨[p],[]⟩ []=[p]:=by simp[downL,keepN_nil,hf]
   rw[this]at e2
   exact⟨hf,List.perm_singleton.1 e2⟩
  ·left
   have:downL ⟨[p],[]⟩ []=[]:=by simp[downL,keepN_nil,hf]
   rw[this]at e2
   exact⟨by omega,List.perm_nil.1 e2⟩
 have hmem: ∀y,y∈x.open_↔y∈openL d ⟨[p],[]⟩:=λy=>by rw[e5];exact sortS_mem _ _
 have hop: ∀y∈x.open_,1<=y/\y<=14/\(0<p.fret->y≠p.course):=by
  intro y hy
  rw[hmem]at hy
  unfold openL at hy
  rcases List.mem_append.1 hy with hy|hy
  ·obtain⟨q,h5,rfl⟩:=List.mem_map.1 hy
   simp at h5
   obtain⟨rfl,h6,h7⟩:=h5
   exact⟨h1,h2,λh=>by omega⟩
  ·simp at hy
   obtain⟨h5,h6⟩:=hy
   have:=ha.rc.oo y h5
   refine⟨this.1,this.2.1,λ_ e=>?_⟩
   subst e
   simp[onC]at h6
 have hnd:x.open_.Nodup:=by
  rw[e5]
  rw[(sortS_perm _).nodup_iff]
  unfold openL
  rw[List.nodup_append]
  refine⟨?_,(ascI_nodup ha.rc.oa).filter _,λa h5 b h6 e=>?_⟩
  ·simp only[List.filter_cons,List.filter_nil]
   split<;>simp
  ·subst e
   obtain⟨q,h7,rfl⟩:=List.mem_map.1 h5
   simp at h7 h6
   obtain⟨rfl,_,_⟩:=h7
   have:=h6.2
   simp[onC]at this
 have hasc:ascI x.open_:=sorted_asc (by rw[e5];exact sortS_le _) hnd
 refine⟨hS,⟨λi a b h5 h6=>?_,λq hq=>?_,?_,hasc,?_,λy hy=>?_⟩,hh,hdown⟩
 ·rcases hdown with⟨_,e⟩|⟨_,e⟩
  ·rw[e]at h5;simp at h5
  ·rw[e]at h6;simp at h6
 ·rcases hdown with⟨_,e⟩|⟨hf,e⟩
  ·rw[e]at hq;simp at hq
  ·rw[e]at hq;simp at hq;subst hq
   exact⟨h1,h2,by omega,h4⟩
 ·rw[hh];intro i a b h;simp at h
 ·rw[hh];simp
 ·obtain⟨k1,k2,k3⟩:=hop y hy
  refine⟨k1,k2,?_⟩
  rcases hdown with⟨_,e⟩|⟨hf,e⟩
  ·rw[e];rfl
  ·rw[e]
   have:=k3 hf
   simp[onC]
   exactλh=>this h.symm
end Go.Proofs.YtpbahncblggodaaGreat
set_option linter.all false
namespace Go.Proofs.YtpbahncblggodaaGreat
open Go Go.Am Go.Sort
set_option maxRecDepth 100000
def playD(d:GNDesk)(x:GChord)(g:List GGrip)(e:GEvent)(live:List GNNote):GNDesk:=⟨x,d.in_,d.h,d.shift,⟨d.piece.instrument,d.piece.events++[e]⟩,live,g⟩
theorem play_desk{d:GNDesk}(ha:DeskA d){p:GPlace}(h1:1<=p.course)(h2:p.course<=14)(h3:0<=p.fret)(h4:p.fret<=18){x:GChord}{g:List GGrip}(hx:f160 d ⟨[p],[]⟩ []=some x)(hg:f161 d x=some g)(hne:g≠[])(e:GEvent)(live:List GNNote):DeskA (playD d x g e live):=by
 obtain⟨hS,hR,hh,hd⟩:=chord_one ha h1 h2 h3 h4 hx
 obtain⟨l',e1,g1,g2,g3,g4,g5⟩:=f161_ex d ha.dh x hS
 rw[hg]at e1;cases e1
 obtain⟨r1,L,r2,r3,r4⟩:=g3 hne
 refine⟨⟨ha.dh.hh,ha.dh.h0,hS,g1,λk hk=>by have:=(g2 k hk).len;have:=hS.d;simp only[Small]at this ⊢;omega⟩,ha.jt,?_,openC_len hR,hR,λ_=>⟨hne,L,r2,r3,r4⟩⟩
 show x.down.length<=1
 rcases hd with⟨_,e⟩|⟨_,e⟩<;>rw[e]<;>simp
theorem flags0:flagsM 0=[[]]:=rfl
theorem flags1:flagsM 1=[[false],[true]]:=rfl
theorem choose_none{d:GNDesk}(ha:DeskA d): ∃r,f98 d [] []=some r/\r.2.2.2=false:=by
 have hol:=ha.ol
 have hsp: ∀drop:List Bool,drop.length=0->f220 d.in_ [] drop d.shift=some [[]]:=λdrop hdrop=>by
  have:drop=[]:=List.eq_nil_of_length_eq_zero hdrop
  subst this
  have hw:ways d.in_ d.shift [] [] []=[[]]:=rfl
  obtain⟨r,e1,e2⟩:=f220_ex d.in_ d.shift [] [] (by simp) rfl (by rw[hw];simp) (by rw[hw];exact f269_small [[]] (by simp) (by simp[Small]))
  rw[hw]at e2
  rw[e1,List.perm_singleton.1 e2]
 obtain⟨r,h1,h2⟩:=f98_ex d ha.dh [] [] (by simp) (by omega) (by simp) (λ_=>[[]]) (λdrop hdrop=>⟨hsp drop hdrop,by simp[Small],λcut hcut pl hpl=>by
  have:cut=[]:=List.eq_nil_of_length_eq_zero hcut
  subst this
  simp at hpl
  subst hpl
  exact⟨rfl,by simp,λ_ x hx=>by simp[downL,keepN_nil]at hx⟩⟩)
 refine⟨r,h1,?_⟩
 cases hr:r.2.2.2
 ·rfl
 ·rw[hr]at h2
  simp only[if_true]at h2
  obtain⟨⟨drop,k1,k2,_⟩,_⟩:=h2
  rw[show([]:List GNNote).length=0 from rfl,flags0]at k1
  simp at k1
  subst k1
  simp at k2
theorem choose_one{d:GNDesk}(ha:DeskA d)(n:GNNote): ∃r,f98 d [n] []=some r/\
  (r.2.2.2=true-> ∃p∈(placesS d.in_ (wr (n.pitch+d.shift))).1,r.1=⟨[p],[]⟩/\f160 d ⟨[p],[]⟩ []=some r.2.1/\f161 d r.2.1=some r.2.2.1/\r.2.2.1≠[]/\(placesS d.in_ (wr (n.pitch+d.shift))).2=0)/\
  (r.2.2.2=false->AllH d.h d.in_->(placesS d.in_ (wr (n.pitch+d.shift))).2≠0\/(placesS d.in_ (wr (n.pitch+d.shift))).1=[]):=by
 have hol:=ha.ol
 generalize hP:placesS d.in_ (wr (n.pitch+d.shift))=P
 obtain⟨P,e⟩:=P
 have hP14:=placesS_14 d.in_ (wr (n.pitch+d.shift))
 rw[hP]at hP14
 simp only at hP14
 have hpl: ∀p∈P,instS d.in_=0/\1<=p.course/\p.course<=14/\0<=p.fret/\p.fret<=18/\ ∃c,d.in_.courses[(p.course-1).toNat]? =some c/\p.fret<=c.frets/\soundS d.in_.steps c p.fret.toNat=wr (n.pitch+d.shift):=λp hp=>place_ok (by rw[hP];exact hp)
 have hwf:ways d.in_ d.shift [n] [false] []=bif decide (e≠0)then []else P.map λp=>[p]:=by rw[ways_one,hP]
 have hwl:(ways d.in_ d.shift [n] [false] []).length<=14/\ ∀pl∈ways d.in_ d.shift [n] [false] [],e=0/\ ∃p∈P,pl=[p]:=by
  rw[hwf]
  by_cases he:e=0
  ·subst he
   simp only[ne_eq,not_true_eq_false,decide_false,cond_false,List.length_map]
   exact⟨hP14,λpl hpl=>by obtain⟨p,h1,rfl⟩:=List.mem_map.1 hpl;exact⟨trivial,p,h1,rfl⟩⟩
  ·simp[he]
 have hwt:ways d.in_ d.shift [n] [true] []=[[⟨0,0⟩]]:=rfl
 obtain⟨r1,e1,e2⟩:=f220_ex d.in_ d.shift [n] [false] (by simp) rfl (by omega) (f269_small _ (by omega) λpl hpl=>by obtain⟨_,p,_,rfl⟩:=hwl.2 pl hpl;simp[Small])
 obtain⟨r2,e3,e4⟩:=f220_ex d.in_ d.shift [n] [true] (by simp) rfl (by rw[hwt];simp) (by rw[hwt];exact f269_small _ (by simp) (by simp[Small]))
 rw[hwt]at e4
 have e4:=List.perm_singleton.1 e4
 have hdr: ∀drop:List Bool,drop.length=1->drop=[false]\/drop=[true]:=λdrop h=>by
  obtain⟨b,rfl⟩:=List.length_eq_one_iff.1 h
  cases b<;>simp
 let al:List Bool->List (List GPlace):=λdrop=>if drop=[false]then r1 else r2
 have hone: ∀pl∈r1,e=0/\ ∃p∈P,pl=[p]:=λpl hpl=>hwl.2 pl (e2.mem_iff.1 hpl)
 obtain⟨r,h1,h2⟩:=f98_ex d ha.dh [n] [] (by simp) (by omega) (by simp) al (λdrop hdrop=>by
  have hok: ∀pl,(pl∈al drop)->pl.length=1:=λpl hpl=>by
   rcases hdr drop hdrop with rfl|rfl
   ·obtain⟨_,p,_,rfl⟩:=hone pl hpl;rfl
   ·have:pl∈r2:=hpl
    rw[e4]at this
    simp at this;subst this;rfl
  refine⟨?_,?_,λcut hcut pl hpl=>?_⟩
  ·rcases hdr drop hdrop with rfl|rfl
   ·exact e1
   ·exact e3
  ·rcases hdr drop hdrop with rfl|rfl
   ·have:=e2.length_eq;simp only[Small];show r1.length<=_;omega
   ·show r2.length<=_;rw[e4];simp
  ·have:cut=[]:=List.eq_nil_of_length_eq_zero hcut
   subst this
   have hl:=hok pl hpl
   obtain⟨p,rfl⟩:=List.length_eq_one_iff.1 hl
   exact⟨rfl,by simp,λ_ x hx y hy _=>by
    unfold downL at hx hy
    simp only[keepN_nil,List.map_nil,List.nil_append,List.mem_filter,List.mem_singleton]at hx hy
    rw[hx.1,hy.1]⟩)
 refine⟨r,h1,λhr=>?_,λhr hall=>?_⟩
 ·rw[hr]at h2
  simp only[if_true]at h2
  obtain⟨⟨drop,k1,k2,k3⟩,k4,k5,k6⟩:=h2
  have hd:=flagsM_len k1
  rcases hdr drop hd with rfl|rfl
  ·obtain⟨he,p,h5,h6⟩:=hone _ k3
   have hcut:r.1.cut=[]:=List.eq_nil_of_length_eq_zero k4
   have hc:r.1=⟨[p],[]⟩:=by
    rcases hq:r.1 with⟨a,b⟩
    rw[hq]at h6 hcut
    simp only at h6 hcut
    rw[h6,hcut]
   refine⟨p,h5,hc,?_,k5.rea,k6,he⟩
   rw[<-hc];exact k5.cho
  ·simp at k2
 ·rw[hr]at h2
  simp only[Bool.false_eq_true,if_false]at h2
  by_cases he:e=0
  ·right
   cases hPn:P with
   |nil=>rfl
   |cons p rest=>
    exfalso
    have hp:p∈P:=by rw[hPn];simp
    have hmem:[p]∈r1:=e2.mem_iff.2 (by rw[hwf];simp[he,hp])
    have hlast: ∀pl∈al [false],∀cut∈flagsM ([]:List GNNote).length,(([]:List GNNote).zip cut).all (tenN (d.piece.events.length:Int) pl)=true-> ∃x,Tried d [] ⟨pl,cut⟩ x []:=by
     rcases h2 with⟨a,l,b,k1,k2,k3⟩|k
     ·rw[show([n]:List GNNote).length=1 from rfl,flags1]at k1
      have:[false]∈a:=by
       cases a with
       |nil=>
        simp at k1
        obtain⟨rfl,_⟩:=k1
        simp at k2
       |cons y a=>
        simp at k1
        rw[<-k1.1];simp
      exact k3 [false] this
     ·exact k [false] (by rw[show([n]:List GNNote).length=1 from rfl,flags1];simp)
    obtain⟨x,hx⟩:=hlast [p] hmem [] (by rw[show([]:List GNNote).length=0 from rfl,flags0];simp) rfl
    obtain⟨hi,q1,q2,q3,q4,c,q5,q6,_⟩:=hpl p hp
    obtain⟨hS,hR,hh,hd⟩:=chord_one ha q1 q2 q3 q4 hx.cho
    have hL: ∃L,f60 d.h x=some L/\L.length<=200/\L≠[]:=by
     rcases hd with⟨hf,hd⟩|⟨hf,hd⟩
     ·obtain⟨L,l1,l2⟩:=f60_nil d.h ha.dh.hh x hd hS.o
      have t1:=ha.dh.hh.t1
      have t2:=ha.dh.hh.t2
      exact⟨L,l1,by omega,λh=>by subst h;simp at l2;omega⟩
     ·obtain⟨L,l1,l2⟩:=hall (p.course-1).toNat c q5 p.fret (by omega) q6
      have ec:(((p.course-1).toNat+1:Nat):Int)=p.course:=by omega
      rw[ec]at l1
      obtain⟨r,m1,m2,_⟩:=f16_ex d.h ha.dh.hh ha.dh.h0 ⟨[⟨p.course,p.fret⟩],[],[]⟩ ⟨by simp[Small],by simp[Small],by simp[Small]⟩
      rw[l1]at m1;cases m1
      obtain⟨_,m3,m4,_⟩:=m2 rfl
      refine⟨L,?_,m4,l2⟩
      rw[<-m3]
      refine f60_cong d.h _ _ (by rw[hd]) λfs hfs=>?_
      rw[hd]at hfs
      have hfs:fs.length=1:=hfs
      obtain⟨b1,n1,n2⟩:=f121_ex d.h x fs ha.dh.hh.n4 ha.dh.hh.ba (by rw[hd];exact hfs) hS.d hS.o
      obtain⟨b2,n3,n4⟩:=f121_ex d.h ⟨[⟨p.course,p.fret⟩],[],[]⟩ fs ha.dh.hh.n4 ha.dh.hh.ba hfs (by simp[Small]) (by simp[Small])
      rw[n1,n3,n2 (by omega),n4 (by omega)]
    obtain⟨L,l1,l2,l3⟩:=hL
    exact reach_free ha hS hR hh l1 l2 l3 hx.rea rfl
  ·left;exact he
theorem f165_one(st:GStop):f165 [st]=some [st]:=by
 obtain⟨r,h1,h2,_⟩:=sortF_key GStop.course f166 f166_eq [st] (by simp[Small]) (λx hx y hy _=>by simp at hx hy;rw[hx,hy])
 unfold f165
 rw[h1,List.perm_singleton.1 h2]
def placedN(n:GNNote)(p:GPlace)(e:Int):GNNote:=⟨n.members,n.pitch,n.from_,n.to_,p,e⟩
theorem strike_one(d:GNDesk)(n:GNNote)(p:GPlace)(hp:1<=p.course)(s:GSign):f100 d ⟨[p],[]⟩ [n] [] s=some ([⟨p.course,p.fret,0,0,0⟩],[],[placedN n p (d.piece.events.length:Int)],d.piece.events,[placedN n p (d.piece.events.length:Int)]):=by
 have hF:FUEL=(FUEL-1)+1:=by unfold FUEL;omega
 unfold f100
 have c1: ¬((0:Int)<(([]:List GNNote).length:Int)):=by simp
 rw[loop_out (r:=(d.piece.events,([]:List GNNote),([]:List GNNote))) (by simp only[c1,decide_false,cond_false]) _ (by unfold FUEL;omega)]
 simp only[Option.bind_some]
 have c2:((0:Int)<(([n]:List GNNote).length:Int)):=by simp
 have c3: ¬((1:Int)<(([n]:List GNNote).length:Int)):=by simp
 have g1:ix ([n]:List GNNote) 0=some n:=rfl
 have g2:ix ([p]:List GPlace) 0=some p:=rfl
 have m1:([]:List GNNote).length<famCap:=by simp[famCap]
 have m2:(0:Int)<=0/\(0:Int)<(([n]:List GNNote).length:Int):=⟨by omega,c2⟩
 have m3:((0:Int)).toNat=([]:List GNNote).length/\((0:Int)).toNat<=famCap:=⟨rfl,by simp[famCap]⟩
 have m4:([]:List GNNote).length+1<=maxElems:=by simp;unfold maxElems;omega
 have m5:([]:List GStop).length+1<=maxElems:=by simp;unfold maxElems;omega
 have c4:0<p.course:=by omega
 have w:wr ((0:Int)+1)=1:=by rw[wrI (by omega) (by omega)];rfl
 rw[hF,loop_on (s':=([placedN n p (d.piece.events.length:Int)],[(⟨p.course,p.fret,0,0,0⟩:GStop)],[placedN n p (d.piece.events.length:Int)],([]:List GNNote),(1:Int)))
  (by simp only[c2,decide_true,cond_true,g1,Option.bind_some,needP m1,needP m2,needP m3,g2,c4,needP m4,needP m5,w];rfl)]
 rw[loop_out (r:=([(⟨p.course,p.fret,0,0,0⟩:GStop)],[placedN n p (d.piece.events.length:Int)],([]:List GNNote),[placedN n p (d.piece.events.length:Int)])) (by simp only[c3,decide_false,cond_false]) _ (by unfold FUEL;omega)]
 simp only[Option.bind_some,f165_one,need,if_true]
end Go.Proofs.YtpbahncblggodaaGreat
set_option linter.all false
namespace Go.Proofs.YtpbahncblggodaaGreat
open Go Go.Am Go.Sort
set_option maxRecDepth 100000
theorem waits_ex(d:GNDesk)(ha:DeskA d)(live:List GNNote)(S:List GSign)(tie:Bool)(hS:d.piece.events.length+S.length<=4000)(ht:tie=true->d.piece.events.length≠0):
  ∃r,loopN (σ:=(List GPlace×List Int×List Int×List GEvent×List GGrip×Int)) (τ:=(List GPlace×List Int×List Int×List GEvent×List GGrip)) (λ((l1_h0_0,l1_h0_1,l1_h0_2,l1_f160034,l1_h0_20,l1_39):(List GPlace×List Int×List Int×List GEvent×List GGrip×Int))=>bif (decide (l1_39<(S.length:Int)))then((ix S l1_39).bind λy6=>(f99 (⟨(⟨l1_h0_0,l1_h0_1,l1_h0_2⟩:GChord),d.in_,d.h,d.shift,(⟨d.piece.instrument,l1_f160034⟩:GPiece),live,l1_h0_20⟩:GNDesk) y6 tie).bind λr7=>some (.inl (r7.1,r7.2.1,r7.2.2.1,r7.2.2.2.1,r7.2.2.2.2,(wr (l1_39+1)))))else(some (.inr (l1_h0_0,l1_h0_1,l1_h0_2,l1_f160034,l1_h0_20)))) FUEL (d.chord.down,d.chord.held,d.chord.open_,d.piece.events,d.possible,0)=some r/\
   (r.2.2.2.1.length=d.piece.events.length+S.length/\DeskA ⟨⟨r.1,r.2.1,r.2.2.1⟩,d.in_,d.h,d.shift,⟨d.piece.instrument,r.2.2.2.1⟩,live,r.2.2.2.2⟩):=by
 have hs:Small S:=by simp only[Small];omega
 refine loop_E (λk(s:List GPlace×List Int×List Int×List GEvent×List GGrip×Int)=>s.2.2.2.2.2=(k:Int)/\s.2.2.2.1.length=d.piece.events.length+k/\DeskA ⟨⟨s.1,s.2.1,s.2.2.1⟩,d.in_,d.h,d.shift,⟨d.piece.instrument,s.2.2.2.1⟩,live,s.2.2.2.2.1⟩) _ S.length hs ⟨rfl,rfl,?_⟩ ?_ ?_
 ·exact⟨⟨ha.dh.hh,ha.dh.h0,ha.dh.ch,ha.dh.po,ha.dh.pf⟩,ha.jt,ha.dl,ha.ol,ha.rc,ha.po⟩
 ·rintro k ⟨s1,s2,s3,s4,s5,s6⟩ hk ⟨e0,e1,hd⟩
  simp only at e0 e1 hd
  subst e0
  have x1:S[k]? =some (S[k]'hk):=List.getElem?_eq_getElem _
  generalize S[k]'hk=y at x1
  obtain⟨g,w1,w2⟩:=wait_ex hd y tie (by show s4.length<famCap;unfold famCap;omega) (λh=>by show s4.length≠0;have:=ht h;omega)
  simp only[dltLen x1,cond_true,ixNat x1,Option.bind_some,wrLen hs x1,w1]
  refine .inl ⟨_,rfl,rfl,?_,w2⟩
  show(s4++_).length=_
  simp;omega
 ·rintro⟨s1,s2,s3,s4,s5,s6⟩ ⟨e0,e1,hd⟩
  simp only at e0 e1 hd
  subst e0
  simp only[Int.lt_irrefl,decide_false,cond_false]
  exact⟨_,rfl,e1,hd⟩
structure StrA (d:GNDesk) (S:List GSign) (r:List GNNote×List GNNote×List GPlace×List Int×List Int×List GEvent×List GNNote×List GGrip):Prop where
 cut:r.2.1=[]
 ev:r.2.2.2.2.2.1.length=d.piece.events.length+S.length
 dk:DeskA ⟨⟨r.2.2.1,r.2.2.2.1,r.2.2.2.2.1⟩,d.in_,d.h,d.shift,⟨d.piece.instrument,r.2.2.2.2.2.1⟩,r.2.2.2.2.2.2.1,r.2.2.2.2.2.2.2⟩
 lv:r.2.2.2.2.2.2.1.length<=1/\ ∀n∈r.2.2.2.2.2.2.1,n∈r.1
theorem stretch_none(d:GNDesk)(ha:DeskA d)(parts:List (List GTone))(t:Int)(S:List GSign)(h1:f96 parts t=some [])(h2:f97 d t=some [])(hS:d.piece.events.length+S.length<=4000): ∃r,f48 d parts t S=some r/\StrA d S r/\r.1=[]:=by
 obtain⟨r3,h3,h4⟩:=choose_none ha
 obtain⟨r,k1,k2,k3⟩:=waits_ex d ha d.live S false hS (λh=>by cases h)
 unfold f48
 have c1:decide ((0:Int)<(([]:List GNNote).length:Int))=false:=by simp
 have m1:([]:List GNNote).length<=famCap:=by simp
 simp only[h1,h2,h3,Option.bind_some,h4,Bool.not_false,cond_true,c1,k1,needP m1]
 exact⟨_,rfl,⟨rfl,k2,⟨⟨k3.dh.hh,k3.dh.h0,k3.dh.ch,k3.dh.po,k3.dh.pf⟩,k3.jt,k3.dl,k3.ol,k3.rc,k3.po⟩,by simp,by simp⟩,rfl⟩
theorem stretch_one(d:GNDesk)(ha:DeskA d)(parts:List (List GTone))(t:Int)(n:GNNote)(hn:n.place=⟨0,0⟩)(S:List GSign)(hne:S≠[])(h1:f96 parts t=some [n])(h2:f97 d t=some [])(hS:d.piece.events.length+S.length<=4000):
  ∃r,f48 d parts t S=some r/\StrA d S r/\ ∃n',r.1=[n']/\n'.members=n.members/\n'.to_=n.to_/\
   ((n'.place.course=0/\(AllH d.h d.in_->badS d.in_ (wr (n.pitch+d.shift))=true))\/(1<=n'.place.course/\badS d.in_ (wr (n.pitch+d.shift))=false)):=by
 obtain⟨r3,h3,h4,h5⟩:=choose_one ha n
 unfold f48
 simp only[h1,h2,h3,Option.bind_some]
 cases hr:r3.2.2.2
 ·obtain⟨r,k1,k2,k3⟩:=waits_ex d ha d.live S false hS (λh=>by cases h)
  have c1:decide ((0:Int)<(([]:List GNNote).length:Int))=false:=by simp
  have m1:([n]:List GNNote).length<=famCap:=by simp[famCap]
  simp only[Bool.not_false,cond_true,c1,k1,Option.bind_some,needP m1]
  refine⟨_,rfl,⟨rfl,k2,⟨⟨k3.dh.hh,k3.dh.h0,k3.dh.ch,k3.dh.po,k3.dh.pf⟩,k3.jt,k3.dl,k3.ol,k3.rc,k3.po⟩,by simp,by simp⟩,n,rfl,rfl,rfl,.inl ⟨by rw[hn],λhall=>?_⟩⟩
  unfold badS
  rcases h5 hr hall with h|h
  ·simp[h]
  ·simp[h]
 ·obtain⟨p,q1,q2,q3,q4,q5,q6⟩:=h4 hr
  obtain⟨_,p1,p2,p3,p4,_⟩:=place_ok q1
  obtain⟨y,S',rfl⟩: ∃y S',S=y::S':=by
   cases S with
   |nil=>exact absurd rfl hne
   |cons y S'=>exact⟨y,S',rfl⟩
  have hd2:=play_desk ha p1 p2 p3 p4 q3 q4 q5 ⟨false,y,false,[⟨p.course,p.fret,0,0,0⟩]⟩ [placedN n p (d.piece.events.length:Int)]
  have hst:=strike_one d n p p1 y
  have g0:ix (y::S') 0=some y:=rfl
  have m1:([placedN n p (d.piece.events.length:Int)]:List GNNote).length=([n]:List GNNote).length:=rfl
  simp only[List.length_cons]at hS
  have m2:d.piece.events.length<famCap:=by unfold famCap;omega
  have m3:1<=(y::S').length:=by simp
  have hlen:(playD d r3.2.1 r3.2.2.1 ⟨false,y,false,[⟨p.course,p.fret,0,0,0⟩]⟩ [placedN n p (d.piece.events.length:Int)]).piece.events.length=d.piece.events.length+1:=by simp[playD]
  obtain⟨r,k1,k2,k3⟩:=waits_ex _ hd2 [placedN n p (d.piece.events.length:Int)] S' true (by rw[hlen];omega) (λ_=>by rw[hlen];omega)
  have e1:(List.take (y::S').length (y::S')).drop 1=S':=by simp
  have hq:r3.1.places=[p]:=by rw[q2]
  have hq2:r3.1.cut=[]:=by rw[q2]
  simp only[Bool.not_true,cond_false,g0,Option.bind_some,hq,hq2,hst,needP m1,needP m2,needP m3,e1]
  unfold playD at k1 k2 k3
  simp only at k1 k2 k3
  simp only[k1,Option.bind_some]
  refine⟨_,rfl,⟨rfl,?_,⟨⟨k3.dh.hh,k3.dh.h0,k3.dh.ch,k3.dh.po,k3.dh.pf⟩,k3.jt,k3.dl,k3.ol,k3.rc,k3.po⟩,by simp,by simp⟩,placedN n p (d.piece.events.length:Int),rfl,rfl,rfl,.inr ⟨p1,?_⟩⟩
  ·simp only[k2,List.length_append,List.length_cons,List.length_nil];omega
  ·unfold badS
   have:(placesS d.in_ (wr (n.pitch+d.shift))).1.length≠0:=λh=>by
    rw[List.eq_nil_of_length_eq_zero h]at q1;simp at q1
   simp only[q6,ne_eq,not_true_eq_false,decide_false,Bool.false_or,decide_eq_false_iff_not]
   omega
theorem declare_nil(s:GSetting)(parts:List (List GTone))(t:Int):f49 s parts [] [] t=some (s.where_,s.losses):=by
 unfold f49
 have c1: ¬((0:Int)<(([]:List GNNote).length:Int)):=by simp
 rw[loop_out (r:=(s.where_,s.losses)) (by simp only[c1,decide_false,cond_false]) _ (by unfold FUEL;omega)]
 simp only[Option.bind_some]
 rw[loop_out (r:=s.losses) (by simp only[c1,decide_false,cond_false]) _ (by unfold FUEL;omega)]
 rfl
theorem declare_one(s:GSetting)(parts:List (List GTone))(t:Int)(n:GNNote)(row:List GPlace)(k:Nat)(hm:n.members=[⟨0,(k:Int)⟩])(hw:s.where_=[row])(hk:k<row.length)(hl:s.losses.length<=4000):
  f49 s parts [n] [] t=some ([row.set k n.place],bif decide (n.place.course=0)then s.losses++[⟨0,(k:Int),1,t⟩]else s.losses):=by
 have hF:FUEL=(FUEL-1)+1:=by unfold FUEL;omega
 unfold f49
 have c1: ¬((0:Int)<(([]:List GNNote).length:Int)):=by simp
 have c2:((0:Int)<(([n]:List GNNote).length:Int)):=by simp
 have c3: ¬((1:Int)<(([n]:List GNNote).length:Int)):=by simp
 have c4:((0:Int)<(([⟨0,(k:Int)⟩]:List GNMember).length:Int)):=by simp
 have c5: ¬((1:Int)<(([⟨0,(k:Int)⟩]:List GNMember).length:Int)):=by simp
 have g1:ix ([n]:List GNNote) 0=some n:=rfl
 have g2:ix ([⟨0,(k:Int)⟩]:List GNMember) 0=some ⟨0,(k:Int)⟩:=rfl
 have g3:ix ([row]:List (List GPlace)) 0=some row:=rfl
 have g4:ix row (k:Int)=some (row[k]'hk):=ixNat (List.getElem?_eq_getElem hk)
 have m1:((0:Int)).toNat<famCap:=by simp[famCap]
 have m2:s.losses.length+1<=maxElems:=by unfold maxElems;omega
 have w:wr ((0:Int)+1)=1:=by rw[wrI (by omega) (by omega)];rfl
 have z1: ¬((0:Int)<0):=by omega
 rw[hF,loop_on (s':=([row.set k n.place],(bif decide (n.place.course=0)then s.losses++[⟨0,(k:Int),1,t⟩]else s.losses),(1:Int))) (by
  simp only[c2,decide_true,cond_true,g1,Option.bind_some]
  rw[loop_on (s':=([row.set k n.place],(bif decide (n.place.course=0)then s.losses++[⟨0,(k:Int),1,t⟩]else s.losses),(1:Int))) (by
   simp only[hm,c4,decide_true,cond_true,g2,Option.bind_some,hw,g3,needP m1,g4,needP m2,z1,decide_false,cond_false,w]
   cases decide (n.place.course=0)<;>rfl)]
  rw[loop_out (r:=([row.set k n.place],(bif decide (n.place.course=0)then s.losses++[⟨0,(k:Int),1,t⟩]else s.losses))) (by simp only[hm,c5,decide_false,cond_false]) _ (by unfold FUEL;omega)]
  simp only[Option.bind_some,w])]
 rw[loop_out (r:=([row.set k n.place],(bif decide (n.place.course=0)then s.losses++[⟨0,(k:Int),1,t⟩]else s.losses))) (by simp only[c3,decide_false,cond_false]) _ (by unfold FUEL;omega)]
 simp only[Option.bind_some]
 rw[loop_out (r:=(bif decide (n.place.course=0)then s.losses++[⟨0,(k:Int),1,t⟩]else s.losses)) (by simp only[c1,decide_false,cond_false]) _ (by unfold FUEL;omega)]
 rfl
end Go.Proofs.YtpbahncblggodaaGreat
set_option linter.all false
namespace Go.Proofs.YtpbahncblggodaaGreat
open Go Go.Am Go.Sort
set_option maxRecDepth 100000
theorem take_flat'{α:Type}{l:List (List α)}{k:Nat}{p:List α}(h:l[k]? =some p):(l.take (k+1)).flatten=(l.take k).flatten++p:=by rw[take_snoc h];simp
theorem flat_take'{α:Type}(l:List (List α))(k:Nat):(l.take k).flatten.length<=l.flatten.length:=by
 have h:l.flatten=(l.take k).flatten++(l.drop k).flatten:=by rw[<-List.flatten_append,List.take_append_drop]
 rw[h,List.length_append]
 omega
theorem f43_eq(l:List (List GSign))(hs:Small l)(hfl:l.flatten.length<=4000000):f43 l=some l.flatten:=by
 unfold f43
 rw[loop_all (λk=>(((l.take k).flatten.length:Int),(k:Int))) l.length hs (by simp) (r:=(l.flatten.length:Int))]
 ·have hok:f95 (l.flatten.length:Int)=some []:=by unfold f95;rw[if_pos (by omega)]
  rw[Option.bind_some,hok,Option.bind_some]
  rw[loop_all (λk=>((l.take k).flatten,(k:Int))) l.length hs (by simp) (r:=l.flatten)]
  ·rfl
  ·intro k hk
   have hg:l[k]? =some (l[k]'hk):=List.getElem?_eq_getElem hk
   generalize l[k]'hk=p at hg
   have hf:=take_flat' hg
   have ht:=flat_take' l (k+1)
   rw[hf,List.length_append]at ht
   simp only[dltLen hg,cond_true,ixNat hg,Option.bind_some,wrLen hs hg,hf]
   by_cases he:p=[]
   ·subst he;simp
   ·have hm:(l.take k).flatten.length+p.length<=maxElems:=by unfold maxElems;omega
    rw[show p.isEmpty=false from by simpa using he]
    simp only[cond_false,need,if_pos hm,Option.bind_some]
  ·simp
 ·intro k hk
  have hg:l[k]? =some (l[k]'hk):=List.getElem?_eq_getElem hk
  generalize l[k]'hk=p at hg
  have hf:=take_flat' hg
  have ht:=flat_take' l (k+1)
  rw[hf,List.length_append]at ht
  have hw:wr (((l.take k).flatten.length:Int)+(p.length:Int))=(((l.take k).flatten.length+p.length:Nat):Int):=by rw[wr64 (by omega) (by omega)];omega
  have hneg:decide ((((l.take k).flatten.length+p.length:Nat):Int)<0)=false:=decide_eq_false (by omega)
  simp only[dltLen hg,cond_true,ixNat hg,Option.bind_some,hw,hneg,cond_false,wrLen hs hg,hf,List.length_append]
 ·simp
theorem f44_eq(l:List GCourse)(h:Small l):f44 l=some l:=by
 unfold f44
 by_cases c:l=[]
 ·subst c;simp
 ·have:l.length<=maxElems:=by simp only[Small]at h;unfold maxElems;omega
  rw[show l.isEmpty=false from by simpa using c];simp[needP this]
theorem f45_eq(l:List Int)(h:Small l):f45 l=some l:=by
 unfold f45
 by_cases c:l=[]
 ·subst c;simp
 ·have:l.length<=maxElems:=by simp only[Small]at h;unfold maxElems;omega
  rw[show l.isEmpty=false from by simpa using c];simp[needP this]
theorem f46_eq(l:List (List GTone))(h6:l.length<=6)(h4: ∀p∈l,p.length<=400):f46 l=some (l.map λp=>List.replicate p.length ⟨0,0⟩):=by
 unfold f46
 have n1:(0:Int)<=(l.length:Int):=by omega
 have n2:(l.length:Int)<=(maxElems:Int):=by unfold maxElems;omega
 simp only[needP n1,needP n2]
 rw[loop_all (λk=>((l.take k).map λp=>List.replicate p.length (⟨0,0⟩:GPlace),(k:Int))) l.length (by omega) (by simp) (r:=l.map λp=>List.replicate p.length ⟨0,0⟩)]
 ·rfl
 ·intro k hk
  have hg:l[k]? =some (l[k]'hk):=List.getElem?_eq_getElem hk
  generalize l[k]'hk=p at hg
  have hp:=h4 p (List.mem_of_getElem? hg)
  have m1:(0:Int)<=(p.length:Int):=by omega
  have m2:(p.length:Int)<=(maxElems:Int):=by unfold maxElems;omega
  have m3:((l.take k).map λp=>List.replicate p.length (⟨0,0⟩:GPlace)).length<famCap:=by simp[famCap];omega
  simp only[dltLen hg,cond_true,ixNat hg,Option.bind_some,wrLen (l:=l) (by simp only[Small];omega) hg,f47,needP m1,needP m2,needP m3,Int.toNat_natCast,take_snoc hg,List.map_append]
  rfl
 ·simp
theorem f51_tone{x y:GLoss}(h1:x.part=y.part)(h2:x.kind=y.kind):f51 x y=some (cmpI x.tone y.tone):=by
 unfold f51
 simp only[f104_eq,Option.bind_some,f103_eq _ (show Small [_,_,_]by simp[Small])]
 rw[h1,h2]
 have e: ∀a:Int,cmpI a a=0:=λa=>by simp[cmpI]
 rw[e,e]
 by_cases h:cmpI x.tone y.tone=0
 ·simp[h]
 ·simp[h]
theorem okT_all: ∀(p:List GTone)(e:Int),okT e p=true->(∀(i:Nat)x,p[i]? =some x->e<=x.from_/\x.from_<x.to_/\x.to_<=262144/\0<=x.pitch/\x.pitch<=127)/\ ∀(i j:Nat)x y,i<j->p[i]? =some x->p[j]? =some y->x.to_<=y.from_
 | [],e,_=>⟨λi x h=>by simp at h,λi j x y _ h=>by simp at h⟩
 |t::r,e,h=>by
  simp only[okT,Bool.and_eq_true,Bool.not_eq_true',badT,inR,Bool.or_eq_false_iff,decide_eq_false_iff_not,Bool.not_eq_false',decide_eq_true_eq]at h
  obtain⟨⟨⟨h1,h1'⟩,h2,h3,h4⟩,h5⟩:=h
  obtain⟨k1,k2⟩:=okT_all r t.to_ h5
  refine⟨λi x hx=>?_,λi j x y hij hx hy=>?_⟩
  ·cases i with
   |zero=>simp at hx;subst hx;omega
   |succ i=>have:=k1 i x (by simpa using hx);omega
  ·cases j with
   |zero=>omega
   |succ j=>
    cases i with
    |zero=>simp at hx;subst hx;exact(k1 j y (by simpa using hy)).1
    |succ i=>exact k2 i j x y (by omega) (by simpa using hx) (by simpa using hy)
def atP(p:List GTone):List Int:=(p.flatMap (timesOf p)).foldl putI [0]
theorem atP_asc(p:List GTone):asc (atP p):=(foldl_put _ [0] (by simp[asc])).1
theorem atP_mem(p:List GTone)(y:Int):y∈atP p↔(∃x∈p,y∈timesOf p x)\/y=0:=by
 unfold atP
 rw[(foldl_put _ [0] (by simp[asc])).2 y]
 simp
theorem atP_from{p:List GTone}{x:GTone}(hx:x∈p):x.from_∈atP p:=by
 rw[atP_mem]
 left
 refine⟨x,hx,?_⟩
 unfold timesOf
 cases soundsAt p x.to_<;>simp
theorem atP_cases{p:List GTone}{y:Int}(h:y∈atP p):y=0\/ ∃x∈p,y=x.from_\/y=x.to_:=by
 rw[atP_mem]at h
 rcases h with⟨x,hx,h⟩|h
 ·right
  refine⟨x,hx,?_⟩
  unfold timesOf at h
  cases hq:soundsAt p x.to_<;>rw[hq]at h<;>simp at h
  ·exact h
  ·exact .inl h
 ·exact .inl h
theorem atP_to{p:List GTone}(hp:okT 0 p=true){x:GTone}(hx:x∈p):x.to_∈atP p:=by
 obtain⟨k1,k2⟩:=okT_all p 0 hp
 obtain⟨i,hi,rfl⟩:=List.getElem_of_mem hx
 have ei:p[i]? =some p[i]:=List.getElem?_eq_getElem hi
 have hxi:=k1 i _ ei
 cases hs:soundsAt p (p[i]).to_ with
 |false=>
  rw[atP_mem]
  left
  refine⟨p[i],hx,?_⟩
  unfold timesOf
  rw[hs];simp
 |true=>
  unfold soundsAt at hs
  obtain⟨y,hy,h⟩:=List.any_eq_true.1 hs
  simp at h
  obtain⟨j,hj,rfl⟩:=List.getElem_of_mem hy
  have ej:p[j]? =some p[j]:=List.getElem?_eq_getElem hj
  rcases Nat.lt_trichotomy j i with hlt|heq|hgt
  ·have:=k2 j i _ _ hlt ej ei;omega
  ·subst heq;omega
  ·have:=k2 i j _ _ hgt ei ej
   have e:(p[i]).to_=(p[j]).from_:=by omega
   rw[e]
   exact atP_from hy
theorem asc_get{l:List Int}(h:asc l){i j:Nat}{a b:Int}(hij:i<j)(ha:l[i]? =some a)(hb:l[j]? =some b):a<b:=by
 unfold asc at h
 rw[List.pairwise_iff_getElem]at h
 obtain⟨hi,rfl⟩:=List.getElem?_eq_some_iff.1 ha
 obtain⟨hj,rfl⟩:=List.getElem?_eq_some_iff.1 hb
 exact h i j hi hj hij
theorem asc_next{l:List Int}(h:asc l){i:Nat}{a b y:Int}(ha:l[i]? =some a)(hb:l[i+1]? =some b)(hy:y∈l)(hlt:a<y):b<=y:=by
 obtain⟨m,hm,rfl⟩:=List.getElem_of_mem hy
 have em:l[m]? =some l[m]:=List.getElem?_eq_getElem hm
 rcases Nat.lt_trichotomy m (i+1)with h1|h1|h1
 ·rcases Nat.lt_or_ge m i with h2|h2
  ·have:=asc_get h h2 em ha;omega
  ·have:m=i:=by omega
   subst this
   rw[ha]at em;have:=Option.some.inj em;omega
 ·subst h1
  rw[hb]at em;have:=Option.some.inj em;omega
 ·have:=asc_get h h1 hb em;omega
theorem atP_len{p:List GTone}:(atP p).length<=2*p.length+1:=by
 have h1:=foldl_len (p.flatMap (timesOf p)) [0]
 have h2:=times_len p p
 have h1:(atP p).length<=_:=h1
 simp only[List.length_cons,List.length_nil]at h1
 omega
theorem atP_bound{p:List GTone}(hp:okT 0 p=true){y:Int}(hy:y∈atP p):0<=y/\y<=262144:=by
 obtain⟨k1,_⟩:=okT_all p 0 hp
 rcases atP_cases hy with rfl|⟨x,hx,h⟩
 ·omega
 ·obtain⟨i,hi,rfl⟩:=List.getElem_of_mem hx
  have:=k1 i _ (List.getElem?_eq_getElem hi)
  rcases h with h|h<;>omega
end Go.Proofs.YtpbahncblggodaaGreat
set_option linter.all false
namespace Go.Proofs.YtpbahncblggodaaGreat
open Go Go.Am Go.Sort
set_option maxRecDepth 100000
theorem len_sum: ∀{l:List GSign},(∀s∈l,s∈allS)->l.length<=sumT l
 | [],_=>by simp
 |s::l,h=>by
  have h1:=(allS_ok s (h s (by simp))).2.1
  have h2:=len_sum (l:=l) λx hx=>h x (by simp[hx])
  show l.length+1<=tk s+sumT l
  omega
def badA(a:GInstrument)(t:GTone):Bool:=badS a (wr (t.pitch+0))
def cntB(a:GInstrument)(l:List GTone):Nat:=(l.filter (badA a)).length
theorem cntB_snoc(a:GInstrument)(l:List GTone)(x:GTone):cntB a (l++[x])=cntB a l+(bif badA a x then 1 else 0):=by
 unfold cntB
 rw[List.filter_append,List.length_append]
 cases h:badA a x<;>simp[h]
theorem missP_eq(a:GInstrument): ∀(l:List GTone)(n:Nat),n+l.length<=100000->missP a 0 (n:Int) l=((n+cntB a l:Nat):Int)
 | [],n,_=>rfl
 |t::l,n,h=>by
  simp only[List.length_cons]at h
  have e:missP a 0 (n:Int) (t::l)=missP a 0 (bif badS a (wr (t.pitch+0))then wr ((n:Int)+1)else(n:Int)) l:=rfl
  rw[e]
  have hc:cntB a (t::l)=(bif badA a t then 1 else 0)+cntB a l:=by
   unfold cntB
   cases hq:badA a t<;>simp[List.filter_cons,hq];omega
  rw[hc]
  unfold badA
  cases badS a (wr (t.pitch+0))
  ·simp only[cond_false]
   rw[missP_eq a l n (by omega)]
   congr 1
   omega
  ·simp only[cond_true]
   rw[wrNat (by omega),missP_eq a l (n+1) (by omega)]
   congr 1
   omega
abbrev StI:=List GPlace×List Int×List Int×List GEvent×List GNNote×List GGrip×List GCourse×List Int×List GEvent×List (List GPlace)×List GLoss×Int
structure OneI (a:GInstrument) (h:GHand) (P:List GTone) (signs:List (List GSign)) (i:Nat) (s:StI):Prop where
 ix:s.2.2.2.2.2.2.2.2.2.2.2=(i:Int)
 dk:DeskA ⟨⟨s.1,s.2.1,s.2.2.1⟩,a,h,0,⟨a,s.2.2.2.1⟩,s.2.2.2.2.1,s.2.2.2.2.2.1⟩
 ev:s.2.2.2.1.length=(signs.take i).flatten.length
 lv:s.2.2.2.2.1.length<=1
 lt: ∀t,(atP P)[i]? =some t-> ∀n∈s.2.2.2.2.1,n.to_<=t
 wh: ∃row,s.2.2.2.2.2.2.2.2.2.1=[row]/\row.length=P.length
 ks: ∃k,k<=P.length/\(∀t,(atP P)[i]? =some t->(∀(j:Nat)x,j<k->P[j]? =some x->x.to_<=t)/\ ∀(j:Nat)x,k<=j->P[j]? =some x->t<=x.from_)/\
  s.2.2.2.2.2.2.2.2.2.2.1.length<=k/\(∀x∈s.2.2.2.2.2.2.2.2.2.2.1,x.part=0/\x.kind=1/\x.tone<(k:Int))/\(s.2.2.2.2.2.2.2.2.2.2.1.Pairwise λx y=>x.tone<y.tone)/\
  cntB a (P.take k)<=s.2.2.2.2.2.2.2.2.2.2.1.length/\(AllH h a->s.2.2.2.2.2.2.2.2.2.2.1.length=cntB a (P.take k))
theorem one_step(a:GInstrument)(h:GHand)(P:List GTone)(hP:okT 0 P=true)(hP4:P.length<=400)(signs:List (List GSign))(hsl:signs.length+1=(atP P).length)(hsn: ∀S∈signs,S≠[])(hfl:signs.flatten.length<=400)(i:Nat)(s:StI)(hi:i<signs.length)(hI:OneI a h P signs i s):
   ∃t S r q,(atP P)[i]? =some t/\signs[i]? =some S/\f48 ⟨⟨s.1,s.2.1,s.2.2.1⟩,a,h,0,⟨a,s.2.2.2.1⟩,s.2.2.2.2.1,s.2.2.2.2.2.1⟩ [P] t S=some r/\r.2.1=[]/\
    f49 ⟨⟨⟨s.2.2.2.2.2.2.1,s.2.2.2.2.2.2.2.1⟩,s.2.2.2.2.2.2.2.2.1⟩,0,s.2.2.2.2.2.2.2.2.2.1,s.2.2.2.2.2.2.2.2.2.2.1⟩ [P] r.1 [] t=some q/\
    OneI a h P signs (i+1) (r.2.2.1,r.2.2.2.1,r.2.2.2.2.1,r.2.2.2.2.2.1,r.2.2.2.2.2.2.1,r.2.2.2.2.2.2.2,s.2.2.2.2.2.2.1,s.2.2.2.2.2.2.2.1,s.2.2.2.2.2.2.2.2.1,q.1,q.2,((i+1:Nat):Int)):=by
 obtain⟨s1,s2,s3,ev,live,po,c0,c1,c2,wh,lo,ii⟩:=s
 obtain⟨e0,hd,hev,hlv,hlt,⟨row,hwh,hrow⟩,k,hk,hk2,hl1,hl2,hl3,hl4,hl5⟩:=hI
 simp only at e0 hd hev hlv hlt hwh hrow hl1 hl2 hl3 hl4 hl5
 subst hwh
 have et:(atP P)[i]? =some ((atP P)[i]'(by omega)):=List.getElem?_eq_getElem _
 generalize(atP P)[i]'(by omega)=t at et
 have et2:(atP P)[i+1]? =some ((atP P)[i+1]'(by omega)):=List.getElem?_eq_getElem _
 generalize(atP P)[i+1]'(by omega)=t2 at et2
 have eS:signs[i]? =some (signs[i]'hi):=List.getElem?_eq_getElem _
 generalize signs[i]'hi=S at eS
 have hSne:=hsn S (List.mem_of_getElem? eS)
 have htk:=take_flat' eS
 have htl:=flat_take' signs (i+1)
 rw[htk,List.length_append]at htl
 obtain⟨k1,k2⟩:=okT_all P 0 hP
 obtain⟨hb,haft⟩:=hk2 t et
 have hlt2:t<t2:=asc_get (atP_asc P) (Nat.lt_succ_self i) et et2
 have hf97:f97 ⟨⟨s1,s2,s3⟩,a,h,0,⟨a,ev⟩,live,po⟩ t=some []:=f97_nil _ t (by simp only[Small];omega) λn hn=>by
   have:=hlt t et n hn
   omega
 have h6:([P]:List (List GTone)).length<=6:=by simp
 have h4: ∀p∈([P]:List (List GTone)),p.length<=400:=λp hp=>by simp at hp;subst hp;exact hP4
 by_cases hc: ∃x,P[k]? =some x/\x.from_=t
 ·
   obtain⟨x,hx,hxf⟩:=hc
   have hkl:=(List.getElem?_eq_some_iff.1 hx).1
   have hxk:=k1 k x hx
   have hsplit:P=P.take k++x::P.drop (k+1):=by
    have h1:=(List.getElem?_eq_some_iff.1 hx).2
    have h2:=List.take_append_drop k P
    rw[List.drop_eq_getElem_cons hkl,h1]at h2
    exact h2.symm
   have hlen:(P.take k).length=k:=by simp;omega
   have hbe:beginA t 0 [P] []=[⟨[⟨0,(k:Int)⟩],x.pitch,t,maxI 0 x.to_,⟨0,0⟩,0⟩]:=by
    have:=begin_one (t:=t) hsplit (λy hy=>?_) (λy hy=>?_) hxf
    ·rw[hlen]at this;exact this
    ·rw[List.mem_take_iff_getElem]at hy
     obtain⟨j,hj,rfl⟩:=hy
     have ej:P[j]? =some (P[j]'(by omega)):=List.getElem?_eq_getElem _
     have a1:=hb j _ (by omega) ej
     have a2:=k1 j _ ej
     omega
    ·obtain⟨j,hj,hy'⟩:=List.mem_drop_iff_getElem.1 hy
     have ej:P[k+1+j]? =some y:=by rw[<-hy'];exact List.getElem?_eq_getElem _
     have:=k2 k (k+1+j) _ _ (by omega) hx ej
     omega
   have hf96:f96 [P] t=some [⟨[⟨0,(k:Int)⟩],x.pitch,t,maxI 0 x.to_,⟨0,0⟩,0⟩]:=by rw[f96_eq [P] t h6 h4,hbe]
   obtain⟨r,r1,r2,n',r3,r4,r5,r6⟩:=stretch_one ⟨⟨s1,s2,s3⟩,a,h,0,⟨a,ev⟩,live,po⟩ hd [P] t _ rfl S hSne hf96 hf97 (by show ev.length+S.length<=4000;omega)
   simp only at r4 r5 r6
   have hto:n'.to_=x.to_:=by rw[r5];unfold maxI;rw[if_pos (by omega)]
   have hde:=declare_one ⟨⟨⟨c0,c1⟩,c2⟩,0,[row],lo⟩ [P] t n' row k r4 rfl (by omega) (by show lo.length<=4000;omega)
   refine⟨t,S,r,_,et,eS,r1,r2.cut,by rw[r3];exact hde,⟨rfl,r2.dk,?_,r2.lv.1,λt' ht' n hn=>?_,⟨row.set k n'.place,rfl,by simp[hrow]⟩,k+1,hkl,λt' ht'=>?_,?_,?_,?_,?_,?_⟩⟩
   ·show r.2.2.2.2.2.1.length=_
    rw[r2.ev,htk,List.length_append]
    show ev.length+S.length=_
    omega
   ·rw[et2]at ht';cases ht'
    have:=r2.lv.2 n hn
    rw[r3]at this
    simp at this
    subst this
    rw[hto]
    exact asc_next (atP_asc P) et et2 (atP_to hP (List.mem_of_getElem? hx)) (by omega)|>λh=>by
     rcases atP_cases (List.mem_of_getElem? et2)with h0|⟨y,hy,hyy⟩
     ·have:=(atP_bound hP (List.mem_of_getElem? et)).1;omega
     ·obtain⟨j,hj,rfl⟩:=List.getElem_of_mem hy
      have ej:P[j]? =some P[j]:=List.getElem?_eq_getElem hj
      have b1:=k1 j _ ej
      rcases Nat.lt_trichotomy j k with h1|h1|h1
      ·have:=hb j _ h1 ej
       rcases hyy with h2|h2<;>omega
      ·subst h1
       rw[hx]at ej;have:=Option.some.inj ej
       rw[<-this]at hyy b1
       rcases hyy with h2|h2<;>omega
      ·have:=k2 k j _ _ h1 hx ej
       rcases hyy with h2|h2<;>omega
   ·rw[et2]at ht';cases ht'
    have hto2:x.to_<=t2:=by
     rcases atP_cases (List.mem_of_getElem? et2)with h0|⟨y,hy,hyy⟩
     ·have:=(atP_bound hP (List.mem_of_getElem? et)).1;omega
     ·obtain⟨j,hj,rfl⟩:=List.getElem_of_mem hy
      have ej:P[j]? =some P[j]:=List.getElem?_eq_getElem hj
      have b1:=k1 j _ ej
      rcases Nat.lt_trichotomy j k with h1|h1|h1
      ·have:=hb j _ h1 ej
       rcases hyy with h2|h2<;>omega
      ·subst h1
       rw[hx]at ej;have:=Option.some.inj ej
       rw[<-this]at hyy b1
       rcases hyy with h2|h2<;>omega
      ·have:=k2 k j _ _ h1 hx ej
       rcases hyy with h2|h2<;>omega
    refine⟨λj y hj hy=>?_,λj y hj hy=>?_⟩
    ·by_cases hjk:j<k
     ·have:=hb j y hjk hy;omega
     ·have:j=k:=by omega
      subst this
      rw[hx]at hy;cases hy
      exact hto2
    ·have:=k2 k j _ _ (by omega) hx hy
     exact asc_next (atP_asc P) et et2 (atP_from (List.mem_of_getElem? hy)) (by omega)
   ·show(bif decide (n'.place.course=0)then lo++[⟨0,(k:Int),1,t⟩]else lo:List GLoss).length<=k+1
    cases decide (n'.place.course=0)
    ·show lo.length<=k+1;omega
    ·simp;omega
   ·intro y hy
    have hy:y∈(bif decide (n'.place.course=0)then lo++[⟨0,(k:Int),1,t⟩]else lo:List GLoss):=hy
    cases hq:decide (n'.place.course=0)
    ·rw[hq]at hy
     have:=hl2 y hy
     exact⟨this.1,this.2.1,by have:=this.2.2;omega⟩
    ·rw[hq]at hy
     simp at hy
     rcases hy with hy|rfl
     ·have:=hl2 y hy
      exact⟨this.1,this.2.1,by have:=this.2.2;omega⟩
     ·exact⟨rfl,rfl,by show(k:Int)<((k+1:Nat):Int);omega⟩
   ·show(bif decide (n'.place.course=0)then lo++[⟨0,(k:Int),1,t⟩]else lo:List GLoss).Pairwise _
    cases decide (n'.place.course=0)
    ·exact hl3
    ·simp only[cond_true]
     rw[List.pairwise_append]
     exact⟨hl3,by simp,λy hy z hz=>by simp at hz;subst hz;exact(hl2 y hy).2.2⟩
   ·rw[take_snoc hx,cntB_snoc]
    show _<=(bif decide (n'.place.course=0)then lo++[⟨0,(k:Int),1,t⟩]else lo:List GLoss).length
    rcases r6 with⟨q1,q2⟩|⟨q1,q2⟩
    ·have:decide (n'.place.course=0)=true:=decide_eq_true q1
     rw[this]
     simp
     cases badA a x<;>simp <;>omega
    ·have:decide (n'.place.course=0)=false:=decide_eq_false (by omega)
     rw[this]
     have q2:badA a x=false:=q2
     rw[q2]
     simpa using hl4
   ·intro hall
    rw[take_snoc hx,cntB_snoc]
    show(bif decide (n'.place.course=0)then lo++[⟨0,(k:Int),1,t⟩]else lo:List GLoss).length=_
    have h5:=hl5 hall
    rcases r6 with⟨q1,q2⟩|⟨q1,q2⟩
    ·have:decide (n'.place.course=0)=true:=decide_eq_true q1
     rw[this]
     have q2:badA a x=true:=q2 hall
     rw[q2]
     simp[h5]
    ·have:decide (n'.place.course=0)=false:=decide_eq_false (by omega)
     rw[this]
     have q2:badA a x=false:=q2
     rw[q2]
     simpa using h5
 ·
   have hno: ∀y∈P,y.from_≠t:=by
    intro y hy e
    obtain⟨j,hj,rfl⟩:=List.getElem_of_mem hy
    have ej:P[j]? =some P[j]:=List.getElem?_eq_getElem hj
    have b1:=k1 j _ ej
    rcases Nat.lt_trichotomy j k with h1|h1|h1
    ·have:=hb j _ h1 ej;omega
    ·subst h1;exact hc ⟨_,ej,e⟩
    ·have ek:P[k]? =some (P[k]'(by omega)):=List.getElem?_eq_getElem _
     have:=k2 k j _ _ h1 ek ej
     have b2:=k1 k _ ek
     have b3:=haft k _ (Nat.le_refl _) ek
     omega
   have hf96:f96 [P] t=some []:=by rw[f96_eq [P] t h6 h4,begin_none hno]
   obtain⟨r,r1,r2,r3⟩:=stretch_none ⟨⟨s1,s2,s3⟩,a,h,0,⟨a,ev⟩,live,po⟩ hd [P] t S hf96 hf97 (by show ev.length+S.length<=4000;omega)
   refine⟨t,S,r,_,et,eS,r1,r2.cut,by rw[r3];exact declare_nil _ _ _,⟨rfl,r2.dk,?_,r2.lv.1,λt' ht' n hn=>?_,⟨row,rfl,hrow⟩,k,hk,λt' ht'=>?_,hl1,hl2,hl3,hl4,hl5⟩⟩
   ·show r.2.2.2.2.2.1.length=_
    rw[r2.ev,htk,List.length_append]
    show ev.length+S.length=_
    omega
   ·have:=r2.lv.2 n hn
    rw[r3]at this
    simp at this
   ·rw[et2]at ht';cases ht'
    refine⟨λj y hj hy=>by have:=hb j y hj hy;omega,λj y hj hy=>?_⟩
    have b1:=haft j y hj hy
    have b2:=hno y (List.mem_of_getElem? hy)
    exact asc_next (atP_asc P) et et2 (atP_from (List.mem_of_getElem? hy)) (by omega)
end Go.Proofs.YtpbahncblggodaaGreat
set_option linter.all false
namespace Go.Proofs.YtpbahncblggodaaGreat
open Go Go.Am Go.Sort
set_option maxRecDepth 100000
theorem flat_bound{α:Type}{n:Nat}: ∀{l:List (List α)},(∀S∈l,S.length<=n)->l.flatten.length<=n*l.length
 | [],_=>by simp
 |S::l,h=>by
  have h1:=h S (by simp)
  have h2:=flat_bound (l:=l) λx hx=>h x (by simp[hx])
  simp only[List.flatten_cons,List.length_append,List.length_cons,Nat.mul_add,Nat.mul_one]
  omega
theorem f11_one(a:GInstrument)(h:GHand)(P:List GTone)(hj:h.jump=h.top): ∃r,f11 [P] a h 0=some r/\
  (r.2=0->setupS [P] a=0/\HandOk h/\f39 h=some 0/\P.length<=400/\(∀x∈r.1.losses,x.kind=1)/\cntB a P<=r.1.losses.length/\(AllH h a->r.1.losses.length=cntB a P)/\r.1.losses.length<=400):=by
 unfold f11
 rw[f38_eq [P] a (by simp[Small])]
 simp only[Option.bind_some]
 by_cases h1:setupS [P] a=0
 case neg=>simp only[ne_eq,h1,not_false_eq_true,decide_true,cond_true];exact⟨_,rfl,λh=>absurd h h1⟩
 simp only[h1,ne_eq,not_true_eq_false,decide_false,cond_false]
 obtain⟨e,e1,e2⟩:=f39_ex h
 rw[e1]
 simp only[Option.bind_some]
 by_cases h2:e=0
 case neg=>simp only[h2,not_false_eq_true,decide_true,cond_true];exact⟨_,rfl,λh=>absurd h h2⟩
 subst h2
 have hh:=e2 rfl
 have h0:inR 0 (-24) 24=true:=rfl
 simp only[not_true_eq_false,decide_false,cond_false,f40_eq,h0,Option.bind_some,Bool.not_true]
 obtain⟨hps,hin⟩:=setup_ok h1
 obtain⟨_,hpp⟩:=partsS_ok hps
 obtain⟨hP4,hP⟩:=hpp P (by simp)
 have hat:f41 [P]=some (atP P):=by
  rw[f41_eq [P] (by simp) (λp hp=>by simp at hp;subst hp;exact hP4)]
  simp[atP]
 have hal:=atP_len (p:=P)
 have hasc:=atP_asc P
 have hpos:0<(atP P).length:=List.length_pos_of_mem ((atP_mem P 0).2 (.inr rfl))
 simp only[hat,Option.bind_some]
 have w0:wr (((atP P).length:Int)-1)=(((atP P).length-1:Nat):Int):=by rw[wrI (by omega) (by omega)];omega
 rw[w0]
 refine loopB (λk(s:List (List GSign)×Int)=>s.2=(k:Int)/\s.1.length=k/\ ∀S∈s.1,S≠[]/\S.length<=4608) (λo=>match o with
  |.inl s=>s.length+1=(atP P).length/\ ∀S∈s,S≠[]/\S.length<=4608
  |.inr r=>r.2=25) ((atP P).length-1) (by omega) ⟨rfl,rfl,by simp⟩ ?_ ?_ ?_
 ·rintro k ⟨s,i⟩ hk ⟨q1,q2,q3⟩
  simp only at q1 q2 q3
  subst q1
  have x1:(atP P)[k]? =some ((atP P)[k]'(by omega)):=List.getElem?_eq_getElem _
  have x2:(atP P)[k+1]? =some ((atP P)[k+1]'(by omega)):=List.getElem?_eq_getElem _
  generalize(atP P)[k]'(by omega)=t at x1
  generalize(atP P)[k+1]'(by omega)=t2 at x2
  have c1:(k:Int)<(((atP P).length-1:Nat):Int):=by omega
  have w1:wr ((k:Int)+1)=((k+1:Nat):Int):=wrNat (by omega)
  have b1:=atP_bound hP (List.mem_of_getElem? x1)
  have b2:=atP_bound hP (List.mem_of_getElem? x2)
  have b3:=asc_get hasc (Nat.lt_succ_self k) x1 x2
  have w2:wr (t2-t)=t2-t:=wrI (by omega) (by omega)
  obtain⟨r,r1,r2⟩:=f42_ex (t2-t)
  have m1:s.length+1<=maxElems:=by unfold maxElems;omega
  simp only[c1,decide_true,cond_true,w1,ixNat x2,ixNat x1,Option.bind_some,w2,r1]
  by_cases c2:r.2=0
  ·obtain⟨_,n1,n2,n3⟩:=r2 c2
   simp only[c2,not_true_eq_false,decide_false,cond_false,needP m1]
   refine .inl ⟨_,rfl,rfl,by simp[q2],λS hS=>?_⟩
   rcases List.mem_append.1 hS with hS|hS
   ·exact q3 S hS
   ·simp at hS;subst hS
    refine⟨λh=>?_,?_⟩
    ·rw[h]at n2;simp[sumT]at n2;omega
    ·have:=len_sum n3;omega
  ·simp only[c2,not_false_eq_true,decide_true,cond_true]
   exact .inr ⟨_,rfl,rfl⟩
 ·rintro⟨s,i⟩ ⟨q1,q2,q3⟩
  simp only at q1 q2 q3
  subst q1
  simp only[Int.lt_irrefl,decide_false,cond_false]
  exact⟨_,rfl,by omega,q3⟩
 intro o ho
 cases o with
 |inr r=>exact⟨r,rfl,λh=>by have h3:r.2=25:=ho;omega⟩
 |inl signs=>
 obtain⟨hsl,hs2⟩:=ho
 have hsl:signs.length+1=(atP P).length:=hsl
 have hfb:=flat_bound (n:=4608) λS hS=>(hs2 S hS).2
 simp only[Sum.elim_inl]
 rw[f43_eq signs (by simp only[Small];omega) (by omega)]
 simp only[Option.bind_some]
 by_cases h3:400<(signs.flatten.length:Int)
 case pos=>simp only[h3,decide_true,cond_true];exact⟨_,rfl,λh=>by simp at h⟩
 obtain⟨i1,i2,_,_,_⟩:=instS_ok hin
 rw[f44_eq a.courses (by simp only[Small];omega),f45_eq a.steps (by simp only[Small];omega),f46_eq [P] (by simp) (λp hp=>by simp at hp;subst hp;exact hP4)]
 simp only[h3,decide_false,cond_false,Option.bind_some]
 have hsn: ∀S∈signs,S≠[]:=λS hS=>(hs2 S hS).1
 have hbeg:OneI a h P signs 0 (([]:List GPlace),([]:List Int),([]:List Int),([]:List GEvent),([]:List GNNote),([]:List GGrip),([]:List GCourse),([]:List Int),([]:List GEvent),([P].map λp=>List.replicate p.length (⟨0,0⟩:GPlace)),([]:List GLoss),(0:Int)):=by
  refine⟨rfl,⟨⟨hh,e1,⟨by simp[Small],by simp[Small],by simp[Small]⟩,by simp,by simp⟩,hj,by simp,by simp,rightC_nil,λh=>absurd rfl h⟩,by simp,by simp,by simp,⟨List.replicate P.length ⟨0,0⟩,rfl,by simp⟩,0,by omega,λt ht=>⟨λj x hj=>by omega,λj x _ hx=>?_⟩,by simp,by simp,by simp,by simp[cntB],λ_=>by simp[cntB]⟩
  have hm:=atP_from (List.mem_of_getElem? hx)
  obtain⟨m,hm1,hm2⟩:=List.getElem_of_mem hm
  have em:(atP P)[m]? =some x.from_:=by rw[<-hm2];exact List.getElem?_eq_getElem hm1
  cases m with
  |zero=>rw[ht]at em;have:=Option.some.inj em;omega
  |succ m=>have:=asc_get hasc (Nat.succ_pos m) ht em;omega
 refine loopB (λk(s:StI)=>OneI a h P signs k s) (λr=> ∃i,OneI a h P signs signs.length (r.1,r.2.1,r.2.2.1,r.2.2.2.1,r.2.2.2.2.1,r.2.2.2.2.2.1,r.2.2.2.2.2.2.1,r.2.2.2.2.2.2.2.1,r.2.2.2.2.2.2.2.2.1,r.2.2.2.2.2.2.2.2.2.1,r.2.2.2.2.2.2.2.2.2.2,i)) signs.length (by omega) hbeg ?_ ?_ ?_
 ·rintro k s hk hI
  obtain⟨t,S,r,q,x1,x2,x3,x4,x5,x6⟩:=one_step a h P hP hP4 signs hsl hsn (by omega) k s hk hI
  obtain⟨s1,s2,s3,ev,live,po,c0,c1,c2,wh,lo,ii⟩:=s
  have hix:=hI.ix
  simp only at hix
  subst hix
  simp only at x3 x5 x6
  simp only[dltLen x2,cond_true,ixNat x2,ixNat x1,Option.bind_some,x3,x4,x5,wrLen (l:=signs) (by simp only[Small];omega) x2]
  exact .inl ⟨_,rfl,x6⟩
 ·rintro s hI
  obtain⟨s1,s2,s3,ev,live,po,c0,c1,c2,wh,lo,ii⟩:=s
  have hix:=hI.ix
  simp only at hix
  subst hix
  simp only[Int.lt_irrefl,decide_false,cond_false]
  exact⟨_,rfl,_,hI⟩
 rintro⟨s1,s2,s3,ev,live,po,c0,c1,c2,wh,lo⟩ ⟨ii,hI⟩
 obtain⟨g0,gd,gev,glv,glt,⟨row,gwh,grow⟩,k,gk,gk2,gl1,gl2,gl3,gl4,gl5⟩:=hI
 simp only at g0 gd gev glv glt gwh grow gl1 gl2 gl3 gl4 gl5
 have hkP:k=P.length:=by
  rcases Nat.lt_or_ge k P.length with hlt|hge
  ·exfalso
   have ek:P[k]? =some (P[k]'hlt):=List.getElem?_eq_getElem _
   generalize P[k]'hlt=x at ek
   have hx:=List.mem_of_getElem? ek
   have et:(atP P)[signs.length]? =some ((atP P)[signs.length]'(by omega)):=List.getElem?_eq_getElem _
   generalize(atP P)[signs.length]'(by omega)=t at et
   have b1:=(gk2 t et).2 k x (Nat.le_refl _) ek
   have b2:=(okT_all P 0 hP).1 k x ek
   have hm:=atP_to hP hx
   obtain⟨m,hm1,hm2⟩:=List.getElem_of_mem hm
   have em:(atP P)[m]? =some x.to_:=by rw[<-hm2];exact List.getElem?_eq_getElem hm1
   rcases Nat.lt_trichotomy m signs.length with c|c|c
   ·have:=asc_get hasc c em et;omega
   ·subst c;rw[et]at em;have:=Option.some.inj em;omega
   ·omega
  ·omega
 subst hkP
 rw[List.take_length]at gl4 gl5
 obtain⟨r,r1,r2,_⟩:=sortF_mem GLoss.tone f51 lo (λx hx y hy=>f51_tone (by rw[(gl2 x hx).1,(gl2 y hy).1]) (by rw[(gl2 x hx).2.1,(gl2 y hy).2.1])) (by simp only[Small];omega) (λx hx y hy e=>by
  obtain⟨i,hi,rfl⟩:=List.getElem_of_mem hx
  obtain⟨j,hj,rfl⟩:=List.getElem_of_mem hy
  rw[List.pairwise_iff_getElem]at gl3
  rcases Nat.lt_trichotomy i j with c|c|c
  ·have:=gl3 i j hi hj c;omega
  ·subst c;rfl
  ·have:=gl3 j i hj hi c;omega)
 have hft:=flat_take' signs signs.length
 have m1:ev.length<=famCap:=by unfold famCap;omega
 have m2:wh.length<=famCap:=by rw[gwh];simp[famCap]
 unfold f50
 simp only[r1,Option.bind_some,needP m1,needP m2,needP r2.length_eq]
 refine⟨_,rfl,λ_=>⟨trivial,hh,trivial,hP4,λx hx=>(gl2 x (r2.mem_iff.1 hx)).2.1,?_,λhall=>?_,?_⟩⟩
 ·show _<=r.length;rw[r2.length_eq];exact gl4
 ·show r.length=_;rw[r2.length_eq];exact gl5 hall
 ·show r.length<=400;rw[r2.length_eq];omega
end Go.Proofs.YtpbahncblggodaaGreat
set_option linter.all false
namespace Go.Proofs.YtpbahncblggodaaGreat
open Go Go.Am Go.Sort
set_option maxRecDepth 1000000
theorem f10_eq:f10=some true:=by kernel_rfl
theorem f34_ex(l:List (List GTone))(hs:Small l): ∃r,f34 l=some r/\r.1.length<=10000:=by
 unfold f34
 rw[f33_eq l hs]
 simp only[Option.bind_some]
 by_cases h:partsS l=0
 ·obtain⟨h6,hp⟩:=partsS_ok h
  have h4: ∀p∈l,p.length<=400:=λp hp'=>(hp p hp').1
  have hf:=flat_len 6 h6 h4
  simp only[h,ne_eq,not_true_eq_false,decide_false,cond_false,f53_eq l h6 h4,Option.bind_some]
  refine⟨_,rfl,?_⟩
  have:=(accT_ok l.flatten l.flatten (by omega)).2
  show(accT l.flatten l.flatten).length<=10000
  omega
 ·simp only[ne_eq,h,not_false_eq_true,decide_true,cond_true]
  exact⟨_,rfl,by simp⟩
theorem f9_ex(j:GLaw08Job)(hs:Small j.parts): ∃b,f9 j=some b/\True:=by
 unfold f9
 rw[f33_eq _ hs,f15_eq]
 refine bindX (P1:=λb=>b=false->partsS j.parts=0) ?_ ?_
 ·simp only[Option.bind_some]
  by_cases h:partsS j.parts=0
  ·simp only[h,ne_eq,not_true_eq_false,decide_false,cond_false]
   exact⟨_,rfl,λ_=>trivial⟩
  ·simp only[ne_eq,h,not_false_eq_true,decide_true,cond_true]
   exact⟨_,rfl,λh=>by cases h⟩
 intro b hb
 cases b
 case true=>exact⟨_,rfl,trivial⟩
 have hps:=hb rfl
 obtain⟨h6,hp⟩:=partsS_ok hps
 have hp4: ∀p∈j.parts,Small p:=λp hp'=>by have:=(hp p hp').1;simp only[Small];omega
 simp only[cond_false]
 cases decide (4<(j.parts.length:Int))
 case true=>exact⟨_,rfl,trivial⟩
 simp only[cond_false]
 refine loopB (λk(s:Int×Int)=>s.2=(k:Int)) (λ_=>True) j.parts.length hs rfl ?_ ?_ ?_
 ·rintro k ⟨s1,s2⟩ hk e
  simp only at e
  subst e
  have e1:j.parts[k]? =some (j.parts[k]'hk):=List.getElem?_eq_getElem _
  simp only[dltLen e1,cond_true,ixNat e1,Option.bind_some,wrLen hs e1]
  exact .inl ⟨_,rfl,rfl⟩
 ·rintro⟨s1,s2⟩ e
  simp only at e
  subst e
  simp only[Int.lt_irrefl,decide_false,cond_false]
  exact⟨_,rfl,trivial⟩
 intro n _
 cases decide (24<n)
 case true=>exact⟨_,rfl,trivial⟩
 simp only[cond_false]
 obtain⟨r,r1,r2⟩:=f34_ex j.parts hs
 have hr:Small r.1:=by simp only[Small];omega
 simp only[r1,Option.bind_some]
 refine loopB (λk(s:Int)=>s=(k:Int)) (λ_=>True) r.1.length hr rfl ?_ ?_ ?_
 ·rintro k s hk rfl
  have e1:r.1[k]? =some (r.1[k]'hk):=List.getElem?_eq_getElem _
  generalize r.1[k]'hk=t at e1
  simp only[dltLen e1,cond_true,ixNat e1,wrLen hr e1]
  have key: ∃z,(loopN (σ:=(Int×Int)) (τ:=Int) (λ((l4_8,l4_9):(Int×Int))=>bif (decide (l4_9<(j.parts.length:Int)))then((loopN (σ:=(Int×Int)) (τ:=Int) (λ((l5_8,l5_10):(Int×Int))=>(ix j.parts l4_9).bind λy12=>bif (decide (l5_10<(y12.length:Int)))then((((ix y12 l5_10).bind λy14=>(((some t).bind λy15=>bif (decide (y14.from_=y15))then(bif (decide (-1000<j.shift))then(some (decide (j.shift<1000)))else(some false))else(some false)):Option Bool).bind λ(j7_98:Bool)=>bif j7_98 then((f35 j.instrument (wr (y14.pitch+j.shift))).bind λr19=>some (wr (l5_8*(maxI 1 (r19.1.length:Int)))))else(some l5_8)):Option Int).bind λ(j6_8:Int)=>some (.inl (j6_8,(wr (l5_10+1)))))else(some (.inr l5_8))) FUEL (l4_8,0)).bind λ(l5x_8:Int)=>some (.inl (l5x_8,(wr (l4_9+1)))))else(some (.inr l4_8))) FUEL (1,0))=some z/\True:=by
   refine loop_E (λm(s:Int×Int)=>s.2=(m:Int)) (λ_=>True) j.parts.length hs rfl ?_ ?_
   ·rintro m ⟨s1,s2⟩ hm e
    simp only at e
    subst e
    have e2:j.parts[m]? =some (j.parts[m]'hm):=List.getElem?_eq_getElem _
    have hps:=hp4 _ (List.getElem_mem hm)
    generalize j.parts[m]'hm=p at e2 hps
    simp only[dltLen e2,cond_true,ixNat e2,Option.bind_some,wrLen hs e2]
    have key2: ∃z,(loopN (σ:=(Int×Int)) (τ:=Int) (λ((l5_8,l5_10):(Int×Int))=>bif (decide (l5_10<(p.length:Int)))then((((ix p l5_10).bind λy14=>((bif (decide (y14.from_=t))then(bif (decide (-1000<j.shift))then(some (decide (j.shift<1000)))else(some false))else(some false)):Option Bool).bind λ(j7_98:Bool)=>bif j7_98 then((f35 j.instrument (wr (y14.pitch+j.shift))).bind λr19=>some (wr (l5_8*(maxI 1 (r19.1.length:Int)))))else(some l5_8)):Option Int).bind λ(j6_8:Int)=>some (.inl (j6_8,(wr (l5_10+1)))))else(some (.inr l5_8))) FUEL (s1,0))=some z/\True:=by
     refine loop_E (λm(s:Int×Int)=>s.2=(m:Int)) (λ_=>True) p.length hps rfl ?_ ?_
     ·rintro q ⟨s1,s2⟩ hq e
      simp only at e
      subst e
      have e3:p[q]? =some (p[q]'hq):=List.getElem?_eq_getElem _
      simp only[dltLen e3,cond_true,ixNat e3,Option.bind_some,wrLen hps e3,f35_eq]
      cases decide ((p[q]'hq).from_=t)
      ·exact .inl ⟨_,rfl,rfl⟩
      ·cases decide (-1000<j.shift)
       ·exact .inl ⟨_,rfl,rfl⟩
       ·cases decide (j.shift<1000)<;>exact .inl ⟨_,rfl,rfl⟩
     ·rintro⟨s1,s2⟩ e
      simp only at e
      subst e
      simp only[Int.lt_irrefl,decide_false,cond_false]
      exact⟨_,rfl,trivial⟩
    obtain⟨z,z1,_⟩:=key2
    simp only[z1,Option.bind_some]
    exact .inl ⟨_,rfl,rfl⟩
   ·rintro⟨s1,s2⟩ e
    simp only at e
    subst e
    simp only[Int.lt_irrefl,decide_false,cond_false]
    exact⟨_,rfl,trivial⟩
  obtain⟨z,z1,_⟩:=key
  rw[z1]
  simp only[Option.bind_some]
  cases decide (300<z)
  ·exact .inl ⟨_,rfl,rfl⟩
  ·exact .inr ⟨_,rfl,trivial⟩
 ·rintro s rfl
  simp only[Int.lt_irrefl,decide_false,cond_false]
  exact⟨_,rfl,trivial⟩
 ·intro o _
  cases o<;>exact⟨_,rfl,trivial⟩
end Go.Proofs.YtpbahncblggodaaGreat
set_option linter.all false
namespace Go.Proofs.YtpbahncblggodaaGreat
open Go Go.Am Go.Sort
set_option maxRecDepth 100000
theorem f4_eq(P:List GTone)(a:GInstrument)(h:GHand):f4 P a h=some true:=by
 have key: ∃b,f4 P a h=some b/\b=true:=by
  unfold f4
  generalize hH:(⟨h.low,h.high,h.barre,h.top,h.top,h.shift,h.lift,h.bar,h.stretch,h.slide⟩:GHand)=H
  have hj:H.jump=H.top:=by subst hH;rfl
  simp only[f10_eq,Option.bind_some]
  refine bindX (P1:=λ_=>True) ?_ ?_
  ·refine bindX (f14_ex H) λr1 _=>bifX (λ_=>⟨_,rfl,trivial⟩) λ_=>?_
   rw[f15_eq]
   simp only[Option.bind_some]
   refine bifX (λ_=>⟨_,rfl,trivial⟩) λ_=>?_
   refine bindX (f9_ex _ (by simp[Small])) λb _=>⟨_,rfl,trivial⟩
  intro j _
  cases j
  case true=>exact⟨_,rfl,rfl⟩
  simp only[cond_false]
  refine bindX (f11_one a H P hj) λr hr=>?_
  by_cases c1:r.2=0
  case neg=>simp only[ne_eq,c1,not_false_eq_true,decide_true,cond_true];exact⟨_,rfl,rfl⟩
  obtain⟨q1,hh,q2,q3,q4,q5,q6,q7⟩:=hr c1
  obtain⟨hps,hin⟩:=setup_ok q1
  obtain⟨i1,i2,_,_,i5⟩:=instS_ok hin
  simp only[c1,ne_eq,not_true_eq_false,decide_false,cond_false]
  have hsc:Small a.courses:=by simp only[Small];omega
  refine loopB (λk(s:Bool×Int)=>s.2=(k:Int)/\(s.1=true-> ∀(i:Nat)c,i<k->a.courses[i]? =some c-> ∀f:Int,1<=f->f<=c.frets-> ∃l,f16 H ⟨[⟨((i+1:Nat):Int),f⟩],[],[]⟩=some (l,0)/\l≠[])) (λb=>b=true->AllH H a) a.courses.length hsc ⟨rfl,λ_ i c hi=>by omega⟩ ?_ ?_ ?_
  ·rintro k ⟨b,s2⟩ hk ⟨e,hb⟩
   simp only at e hb
   subst e
   have x1:a.courses[k]? =some (a.courses[k]'hk):=List.getElem?_eq_getElem _
   generalize a.courses[k]'hk=c at x1
   obtain⟨f1,f2,_⟩:=courseS_ok (i5 c (List.mem_of_getElem? x1))
   have w1:wr ((k:Int)+1)=((k+1:Nat):Int):=wrNat (by omega)
   simp only[dltLen x1,cond_true,ixNat x1,Option.bind_some,w1]
   have key2: ∃z,loopN (σ:=(Bool×Int)) (τ:=Bool) (λ((l3_10,l3_13):(Bool×Int))=>bif (decide (l3_13<=c.frets))then((f16 H (⟨([(⟨((k+1:Nat):Int),l3_13⟩:GPlace)]:List GPlace),([]:List Int),([]:List Int)⟩:GChord)).bind λr14=>((bif l3_10 then(bif (decide (r14.2=0))then(some (decide (0<(r14.1.length:Int))))else(some false))else(some false)):Option Bool).bind λ(j4_10:Bool)=>some (.inl (j4_10,(wr (l3_13+1)))))else(some (.inr l3_10))) FUEL (b,1)=some z/\
     (z=true->b=true/\ ∀f:Int,1<=f->f<=c.frets-> ∃l,f16 H ⟨[⟨((k+1:Nat):Int),f⟩],[],[]⟩=some (l,0)/\l≠[]):=by
    refine loop_E (λm(s:Bool×Int)=>s.2=((m+1:Nat):Int)/\(s.1=true->b=true/\ ∀f:Int,1<=f->f<=(m:Int)-> ∃l,f16 H ⟨[⟨((k+1:Nat):Int),f⟩],[],[]⟩=some (l,0)/\l≠[])) _ c.frets.toNat (by omega) ⟨rfl,λh=>⟨h,λf g1 g2=>by omega⟩⟩ ?_ ?_
    ·rintro m ⟨z,s2⟩ hm ⟨e,hz⟩
     simp only at e hz
     subst e
     have c2:((m+1:Nat):Int)<=c.frets:=by omega
     obtain⟨r14,r1,_⟩:=f16_ex H hh q2 ⟨[⟨((k+1:Nat):Int),((m+1:Nat):Int)⟩],[],[]⟩ ⟨by simp[Small],by simp[Small],by simp[Small]⟩
     have w2:wr (((m+1:Nat):Int)+1)=((m+1+1:Nat):Int):=wrNat (by omega)
     simp only[c2,decide_true,cond_true,r1,Option.bind_some,w2]
     cases z
     ·exact .inl ⟨_,rfl,rfl,λh=>by cases h⟩
     ·by_cases c3:r14.2=0
      ·by_cases c4:0<(r14.1.length:Int)
       ·simp only[c3,c4,decide_true,cond_true,Option.bind_some]
        refine .inl ⟨_,rfl,rfl,λ_=>⟨(hz rfl).1,λf g1 g2=>?_⟩⟩
        by_cases hf:f<=(m:Int)
        ·exact(hz rfl).2 f g1 hf
        ·have:f=((m+1:Nat):Int):=by omega
         subst this
         refine⟨r14.1,?_,λh=>by rw[h]at c4;simp at c4⟩
         rw[r1]
         congr 1
         exact Prod.ext rfl c3
       ·simp only[c3,c4,decide_true,decide_false,cond_true,Option.bind_some]
        exact .inl ⟨_,rfl,rfl,λh=>by cases h⟩
      ·simp only[c3,decide_false,cond_true,cond_false,Option.bind_some]
       exact .inl ⟨_,rfl,rfl,λh=>by cases h⟩
    ·rintro⟨z,s2⟩ ⟨e,hz⟩
     simp only at e hz
     subst e
     have c2: ¬(((c.frets.toNat+1:Nat):Int)<=c.frets):=by omega
     simp only[c2,decide_false,cond_false]
     exact⟨_,rfl,λh=>⟨(hz h).1,λf g1 g2=>(hz h).2 f g1 (by omega)⟩⟩
   obtain⟨z,z1,z2⟩:=key2
   simp only[z1,Option.bind_some]
   refine .inl ⟨_,rfl,rfl,λhz i c' hi hc'=>?_⟩
   obtain⟨g1,g2⟩:=z2 hz
   by_cases hik:i<k
   ·exact hb g1 i c' hik hc'
   ·have:i=k:=by omega
    subst this
    rw[x1]at hc';cases hc'
    exact g2
  ·rintro⟨b,s2⟩ ⟨e,hb⟩
   simp only at e hb
   subst e
   simp only[Int.lt_irrefl,decide_false,cond_false]
   exact⟨_,rfl,λh i c hc=>hb h i c (List.getElem?_eq_some_iff.1 hc).1 hc⟩
  intro all hall
  refine loopB (λk(s:Int)=>s=(k:Int)) (λo=>o=.inl ()) r.1.losses.length (by omega) rfl ?_ ?_ ?_
  ·rintro k s hk rfl
   have x1:r.1.losses[k]? =some (r.1.losses[k]'hk):=List.getElem?_eq_getElem _
   have hk1:=q4 _ (List.getElem_mem hk)
   generalize r.1.losses[k]'hk=x at x1 hk1
   simp only[dltLen x1,cond_true,ixNat x1,Option.bind_some,hk1,not_true_eq_false,decide_false,cond_false,wrLen (l:=r.1.losses) (by simp only[Small];omega) x1]
   exact .inl ⟨_,rfl,rfl⟩
  ·rintro s rfl
   simp only[Int.lt_irrefl,decide_false,cond_false]
   exact⟨_,rfl,rfl⟩
  rintro o rfl
  have hm:missingR [P] a 0=((cntB a P:Int),0):=by
   unfold missingR
   have h0:inR 0 (-24) 24=true:=rfl
   rw[if_pos q1,h0]
   have e:missS [P] a 0=missP a 0 ((0:Nat):Int) P:=rfl
   rw[e,missP_eq a P 0 (by omega)]
   simp
  simp only[Sum.elim_inl,f17_eq [P] a 0 (by simp[Small]),hm,Option.bind_some,decide_true,cond_true]
  have c5:(cntB a P:Int)<=(r.1.losses.length:Int):=by omega
  cases all
  ·simp only[Bool.not_false,cond_true,c5,decide_true,Option.bind_some]
   exact⟨_,rfl,rfl⟩
  ·have c6:(r.1.losses.length:Int)=(cntB a P:Int):=by rw[q6 (hall rfl)]
   simp only[Bool.not_true,cond_false,c6,decide_true,cond_true,Int.le_refl,Option.bind_some]
   exact⟨_,rfl,rfl⟩
 obtain⟨b,h1,rfl⟩:=key
 exact h1
end Go.Proofs.YtpbahncblggodaaGreat
