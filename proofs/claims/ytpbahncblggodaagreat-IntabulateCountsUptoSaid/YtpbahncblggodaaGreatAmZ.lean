/- The logic AM, Z: walks on typed states: blocks that become immutable; functions that reach into the state, and calls of them. -/
import Derived.Test.YtpbahncblggodaaGreatAmY
set_option linter.all false
namespace Go.Am
open Go.RowKit
section
variable {S:Nat->Type}
def sW(f:TV S->TV S×iT):List (TV S)->List (TV S)×iT
 | []=>([],[])
 |x::r=>match f x with
  |(y,q)=>match sW f r with
   |(l,q2)=>(y::l,q++q2)
def Du(id:Nat)(l:TV S)(len:Nat)(p:Option (TV S)):Nat->TV S->TV S×iT
 |0,x=>(x,[])
 |n+1,x=>match x with
  |.a y=>(match y with
   |.ms i st k=>bif Nat.beq i id&&Nat.beq st 0 then(l,[(.mp 0 0 k,.mp 0 0 len)])else(x,[])
   |.mp i el off=>bif Nat.beq i id&&Nat.beq el 0&&Nat.beq off 0 then(match p with
    |some v=>(v,[])
    |none=>(x,[]))else(x,[])
   |_=>(x,[]))
  |.fn g cs=>(match sW (Du id l len p n) cs with
   |(cs,q)=>(.fn g cs,q))
  |.agg cs=>(match sW (Du id l len p n) cs with
   |(cs,q)=>(.agg cs,q))
  |.ec cs=>(match sW (Du id l len p n) cs with
   |(cs,q)=>(.ec cs,q))
  |x=>(x,[])
def wj(f:TV S->TV S×iT):dK S->dK S×iT
 | []=>([],[])
 |(t,x)::r=>match f x with
  |(y,q)=>match wj f r with
   |(l,q2)=>((t,y)::l,q++q2)
def kN(id:Nat)(f:TV S->TV S×iT):List (Nat×TB S)->List (Nat×TB S)×iT
 | []=>([],[])
 |(i,b)::r=>match kN id f r with
  |(h,q2)=>bif Nat.beq i id then(h,q2)else match b with
   |.cH n l=>(match sW f l with
    |(l,q)=>((i,.cH n l)::h,q++q2))
   |.rows n c x v m=>(match sW f v with
    |(v,q)=>((i,.rows n c x v m)::h,q++q2))
   |.fm n c w cl pre v post=>(match sW f v with
    |(v,q)=>((i,.fm n c w cl pre v post)::h,q++q2))
   |b=>((i,b)::h,q2)
def Tg(b:Option (TB S)):Option (TV S×Nat×Option (TV S)):=match b with
 |some (.ls _ c xs m _)=>some (.l false c xs,m,none)
 |some (.cH _ l)=>some (.s false l,l.length,match l with
  | [e]=>bif e.Pt then none else some (.ip (Ct e))
  |_=>none)
 |_=>none
def KF(id:Nat)(M:TM S):TM S×iT:=match Tg (bH M.s.heap id)with
 |some (l,len,p)=>match wj (Du id l len p 4) M.bI with
  |(bI,q)=>match kN id (Du id l len p 4) M.s.heap with
   |(h,q2)=>(⟨M.o,M.k,bI,⟨h,M.s.bT⟩⟩,q++q2)
 |none=>(M,[(.any,.iE)])
end
section
variable {B:jc} {id len:Nat} {l:TV B.S} {elems:List AV}
theorem ng{f:TV B.S->TV B.S×iT}(hf: ∀x,(∀p∈(f x).2,p.1=p.2)->Fz id elems ((f x).1.er B.E) (x.er B.E)): ∀{cs:List (TV B.S)},(∀p∈(sW f cs).2,p.1=p.2)->z6 id elems (dY B.E (sW f cs).1) (dY B.E cs)
 | [],_=>.z
 |x::r,h=>.k (hf x λp hp=>h p (Dn _ hp)) (ng hf λp hp=>h p (FA _ hp))
theorem yE{p:Option (TV B.S)}(hp: ∀v,p=some v-> ∃e cs,elems=[e]/\e.cells=cs/\v.er B.E=.ip cs)(hl:l.er B.E=.sl false elems)(hn:len=elems.length): ∀{n:Nat}{x:TV B.S},(∀q∈(Du id l len p n x).2,q.1=q.2)->Fz id elems ((Du id l len p n x).1.er B.E) (x.er B.E)
 |0,x,_=>.r _
 |n+1,x,h=>by
  unfold Du at h |-
  split
  ·rename_i y
   split
   ·rename_i i st k
    have h: ∀p∈(bif Nat.beq i id&&Nat.beq st 0 then(l,[(AV.mp 0 0 k,AV.mp 0 0 len)])else(TV.a (AV.ms i st k),[])).2,p.1=p.2:=h
    cases hc:(Nat.beq i id&&Nat.beq st 0)with
    |false=>exact .r _
    |true=>
     rw[hc]at h
     simp only[fi]at hc
     have e1:=jh hc.1
     have e2:=jh hc.2
     subst e1;subst e2
     have:=h (.mp 0 0 k,.mp 0 0 len) (by simp)
     simp only[AV.mp.injEq]at this
     have hk:=this.2.2
     simp only[cS]
     rw[hl]
     have hk:k=elems.length:=by rw[<-hn];exact hk
     show Fz i elems (.sl false elems) (.ms i 0 k)
     exact .m (by omega) (by rw[XC,hk];exact sG (eF _))
   ·rename_i i el off
    cases hc:(Nat.beq i id&&Nat.beq el 0&&Nat.beq off 0)with
    |false=>exact .r _
    |true=>
     simp only[fi]at hc
     have e1:=jh hc.1.1
     have e2:=jh hc.1.2
     have e3:=jh hc.2
     subst e1;subst e2;subst e3
     cases p with
     |none=>exact .r _
     |some v=>
      obtain⟨e,cs,h1,h2,h3⟩:=hp v rfl
      show Fz i elems (v.er B.E) (.mp i 0 0)
      rw[h3]
      exact .o h1 h2
   ·exact .r _
  ·exact .f (ng (λx=>yE hp hl hn) h)
  ·exact .a (ng (λx=>yE hp hl hn) h)
  ·exact .t (ng (λx=>yE hp hl hn) h)
  ·exact .r _
theorem yF{f:TV B.S->TV B.S×iT}(hf: ∀x,(∀p∈(f x).2,p.1=p.2)->Fz id elems ((f x).1.er B.E) (x.er B.E)): ∀{bI:dK B.S},(∀p∈(wj f bI).2,p.1=p.2)-> ∀t x,bH (eJ B (wj f bI).1) t=some x-> ∃y,bH (eJ B bI) t=some y/\Fz id elems x y
 | [],_,t,x,hx=>by simp[wj,eJ,cV]at hx
 |(k,v)::r,h,t,x,hx=>by
  simp only[wj,eJ,cM]at hx |-
  split at hx
  ·rename_i e;subst e;cases hx
   exact⟨_,by simp,hf v λp hp=>h p (Dn _ hp)⟩
  ·rename_i e
   rw[dM e]
   exact yF hf (λp hp=>h p (FA _ hp)) t x hx
theorem xi{f:TV B.S->TV B.S×iT}(hf: ∀x,(∀p∈(f x).2,p.1=p.2)->Fz id elems ((f x).1.er B.E) (x.er B.E)): ∀{h:List (Nat×TB B.S)},(∀p∈(kN id f h).2,p.1=p.2)-> ∀i b,bH (kC B (kN id f h).1) i=some b->i≠id/\ ∃b',bH (kC B h) i=some b'/\QU id elems b b'
 | [],_,i,b,hx=>by simp[kN,kC,cV]at hx
 |(k,v)::r,h,i,b,hx=>by
  simp only[kN]at h hx
  cases hk:Nat.beq k id with
  |true=>
   rw[hk]at h hx
   have e:=jh hk
   obtain⟨h1,b',h2,h3⟩:=xi hf h i b hx
   refine⟨h1,b',?_,h3⟩
   simp only[kC,cM]
   rw[dM (λe2=>h1 (by omega))];exact h2
  |false=>
   rw[hk]at h hx
   simp only[dj]at h hx
   have eV:k≠id:=λe=>by rw[e,Og]at hk;cases hk
   have rest: ∀{q:iT},(∀p∈(kN id f r).2,p.1=p.2)->bH (kC B (kN id f r).1) i=some b->k≠i->i≠id/\ ∃b',bH (kC B ((k,v)::r)) i=some b'/\QU id elems b b':=λ{_}hq hx e=>by
    obtain⟨h1,b',h2,h3⟩:=xi hf hq i b hx
    refine⟨h1,b',?_,h3⟩
    simp only[kC,cM]
    rw[dM e];exact h2
   split at hx
   ·rename_i n l0
    simp only at h hx
    have Rk: ∀p∈(sW f l0).2,p.1=p.2:=λp hp=>h p (Dn _ hp)
    have JQ: ∀p∈(kN id f r).2,p.1=p.2:=λp hp=>h p (FA _ hp)
    simp only[kC,cM]at hx
    split at hx
    ·rename_i e;subst e;cases hx
     exact⟨eV,.cells n (dY B.E l0),by simp[kC,cM,fx],.cells (ng hf Rk)⟩
    ·rename_i e;exact rest (q:=[]) JQ hx e
   ·rename_i n c x0 v0 m
    simp only at h hx
    have Rk: ∀p∈(sW f v0).2,p.1=p.2:=λp hp=>h p (Dn _ hp)
    have JQ: ∀p∈(kN id f r).2,p.1=p.2:=λp hp=>h p (FA _ hp)
    simp only[kC,cM]at hx
    split at hx
    ·rename_i e;subst e;cases hx
     exact⟨eV,_,by simp[kC,cM,fx],.cells (.p (.r _) (.p (ng hf Rk) (.r _)))⟩
    ·rename_i e;exact rest (q:=[]) JQ hx e
   ·rename_i n c w cl pre v0 post
    simp only at h hx
    have Rk: ∀p∈(sW f v0).2,p.1=p.2:=λp hp=>h p (Dn _ hp)
    have JQ: ∀p∈(kN id f r).2,p.1=p.2:=λp hp=>h p (FA _ hp)
    have hl:=(ng hf Rk).length
    rw[gN,gN]at hl
    simp only[kC,cM]at hx
    split at hx
    ·rename_i e;subst e;cases hx
     refine⟨eV,fx B (.fm n c w cl pre v0 post),by simp[kC,cM],?_⟩
     simp only[fx,hl]
     exact .cells (.p (.r _) (.p (ng hf Rk) (.r _)))
    ·rename_i e;exact rest (q:=[]) JQ hx e
   ·rename_i hv Je hv3
    have JQ: ∀p∈(kN id f r).2,p.1=p.2:=by
     cases v with
     |cH n l0=>exact absurd rfl (hv n l0)
     |ls n c x _ _=>exact h
     |raw b=>exact h
     |lp c bI st pd=>exact h
     |rows n c x v m=>exact absurd rfl (Je n c x v m)
     |fm n c w cl pre v post=>exact absurd rfl (hv3 n c w cl pre v post)
     |fr c cl pre n post=>exact h
    simp only[kC,cM]at hx
    split at hx
    ·rename_i e;subst e;cases hx
     exact⟨eV,_,by simp[kC,cM],.r _⟩
    ·rename_i e;exact rest (q:=[]) JQ hx e
theorem HZ{s:dP B.S}{id len:Nat}{l:TV B.S}{p:Option (TV B.S)}(h:Tg (bH s.heap id)=some (l,len,p)): ∃cB elems,bH (dl B s).heap id=some (.cells cB elems)/\l.er B.E=.sl false elems/\len=elems.length/\ ∀v,p=some v-> ∃e cs,elems=[e]/\e.cells=cs/\v.er B.E=.ip cs:=by
 unfold Tg at h
 split at h
 ·rename_i n c xs m hm hg
  cases h
  exact⟨n,_,by simp only[dp hg,fx],rfl,by simp[hm],λv hv=>by cases hv⟩
 ·rename_i n l hg
  cases h
  exact⟨n,_,by simp only[dp hg,fx],rfl,by simp[gN],λv hv=>by
   split at hv
   ·rename_i e
    cases hi:e.Pt with
    |true=>rw[hi]at hv;cases hv
    |false=>
     rw[hi]at hv;cases hv
     exact⟨e.er B.E,_,rfl,rfl,by simp only[TV.er,Bq hi]⟩
   ·cases hv⟩
 ·cases h
variable {P:Program} {N:Nat} {ρ:Option Nat} {Q:Exit->Env->St->Prop} {M:TM B.S}
def aai{S:Nat->Type}(id:Nat)(M:TM S):Bool:=bif Nat.blt id 1000000 then aad id M else Rc (Nat.beq ((id-1000000)%2) 1) ((id-1000000) / 2) M
def toReg(B:jc)(P:Program)(N:Nat)(fN:Nat)(M:TM B.S):TM B.S×iT:=SX B P N (aai fN) FT M
theorem Cq{f:TV B.S->TV B.S×iT}: ∀{h:List (Nat×TB B.S)},iu h id=true->mi B (kN id f h).1=mi B h
 | [],_=>rfl
 |(k,v)::r,hd=>by
  have key: ∀{v':TB B.S},eR B k v'=eR B k v->iu r id=true->(∀x,(kN id f ((k,v)::r)).1=(bif Nat.beq k id then(kN id f r).1 else x)->x=(k,v')::(kN id f r).1->fR v=false\/Nat.beq k id=false->mi B (kN id f ((k,v)::r)).1=mi B ((k,v)::r)):=λ{v'}e1 hr x ex ex2 hc=>by
   rw[ex]
   cases hk:Nat.beq k id with
   |true=>
    have hf:fR v=false:=by
     rcases hc with h|h
     ·exact h
     ·rw[hk]at h;cases h
    simp only[cS,mi,Cq hr,rq hf,rN]
   |false=>simp only[dj,ex2,mi,Cq hr,e1]
  cases v with
  |fr c cl pre n post=>
   simp only[iu,fi,p9]at hd
   exact key (v':=.fr c cl pre n post) rfl hd.2 _ (by simp only[kN];cases Nat.beq k id<;>rfl) rfl (.inr hd.1.2)
  |cH n l=>exact key (v':=.cH n (sW f l).1) rfl hd _ (by simp only[kN];cases Nat.beq k id<;>rfl) rfl (.inl rfl)
  |rows n c x v m=>exact key (v':=.rows n c x (sW f v).1 m) rfl hd _ (by simp only[kN];cases Nat.beq k id<;>rfl) rfl (.inl rfl)
  |fm n c w cl pre v post=>exact key (v':=.fm n c w cl pre (sW f v).1 post) rfl hd _ (by simp only[kN];cases Nat.beq k id<;>rfl) rfl (.inl rfl)
  |ls n c x m hm=>exact key (v':=.ls n c x m hm) rfl hd _ (by simp only[kN];cases Nat.beq k id<;>rfl) rfl (.inl rfl)
  |raw b=>exact key (v':=.raw b) rfl hd _ (by simp only[kN];cases Nat.beq k id<;>rfl) rfl (.inl rfl)
  |lp c e st pd=>exact key (v':=.lp c e st pd) rfl hd _ (by simp only[kN];cases Nat.beq k id<;>rfl) rfl (.inl rfl)
def JV(B:jc)(id:Nat)(s:dP B.S):Bool:=J8 B s.heap&&pN s.heap&&iu s.heap id
theorem yG{w i:Nat}{b:TB B.S}: ∀{h:List (Nat×TB B.S)},iu h i=true->bH h w=some b->fR b=true->fL w i=true
 | [],_,hg,_=>by simp[cV]at hg
 |(k,x)::r,hd,hg,hf=>by
  simp only[cM]at hg
  split at hg
  ·rename_i e
   cases hg;subst e
   obtain⟨c,cl,pre,n,post,rfl⟩:=lH hf
   simp only[iu,fi]at hd
   exact hd.1.1
  ·refine yG (h:=r) ?_ hg hf
   cases x with
   |fr c cl pre n post=>simp only[iu,fi]at hd;exact hd.2
   |_=>exact hd
theorem Th{id:Nat}{M:TM B.S}(ho:yV M.o=true)(hd:JV B id M.s=true)(hq: ∀p∈(KF id M).2,p.1=p.2)(h:kD B P N ρ Q (KF id M).1):kD B P N ρ Q M:=by
 obtain⟨o,k,bI,s⟩:=M
 cases o<;>simp only[yV]at ho<;>first|(cases ho;done)|skip
 rename_i c
 simp only[JV,fi]at hd
 obtain⟨⟨hd,hw⟩,L9⟩:=hd
 unfold KF at hq h
 split at hq
 ·rename_i l len p hf
  rw[hf]at h
  obtain⟨cB,elems,hg,hl,hn,hp⟩:=HZ hf
  have Wc: ∀x:TV B.S,(∀q∈(Du id l len p 4 x).2,q.1=q.2)->Fz id elems ((Du id l len p 4 x).1.er B.E) (x.er B.E):=λx=>yE hp hl hn
  have h:lT P N ρ c (QK P N ρ Q k) (eJ B (wj (Du id l len p 4) bI).1) (dl B ⟨(kN id (Du id l len p 4) s.heap).1,s.bT⟩):=h
  have h1:=yF Wc (bI:=bI) λp hp=>hq p (Dn _ hp)
  have h2:=xi (id:=id) Wc (h:=s.heap) λp hp=>hq p (FA _ hp)
  refine Sp (S2:=dl B ⟨(kN id (Du id l len p 4) s.heap).1,s.bT⟩) hg h1 ?_ rfl (λi e=>absurd e (nV (xj (n:=s.bT) hd) i)) h
  intro i b hb
  simp only[dl,Cq L9]at hb
  rw[cZ]at hb
  split at hb
  ·rename_i x hx
   cases hb
   obtain⟨g1,b',g2,g3⟩:=h2 i _ hx
   exact⟨g1,b',by simp only[dl];rw[cZ,g2],g3⟩
  ·obtain⟨w,b',g1,g2⟩:=yr hw hb
   refine⟨λe=>?_,b,jo hw g1 g2,.r _⟩
   subst e
   obtain⟨f1,f2⟩:=ff g2
   rw[yG L9 g1 f1]at f2;cases f2
 ·have:=hq (.any,.iE) (by simp);cases this
theorem tZ(fN id:Nat)(k:RT B P N ρ Q (KF id (toReg B P N fN M).1).1)
  (hx:(yV (toReg B P N fN M).1.o,JV B id (toReg B P N fN M).1.s,(toReg B P N fN M).2.map Prod.fst,(KF id (toReg B P N fN M).1).2.map Prod.fst)=(true,true,(toReg B P N fN M).2.map Prod.snd,(KF id (toReg B P N fN M).1).2.map Prod.snd):=by kernel_rfl):RT B P N ρ Q M:=by
 simp only[Prod.mk.injEq]at hx
 obtain⟨h1,h2,h3,h4⟩:=hx
 exact⟨kE (dZ h3) (Th h1 h2 (dZ h4) k.v)⟩
end
theorem vy{α:Type}{b:α}: ∀{h:List (Nat×α)}{i:Nat},bH h i=some b->eg h i b=h
 | [],i,e=>by simp[cV]at e
 |(k,x)::r,i,e=>by
  simp only[cM]at e
  unfold eg
  rw[KV]
  split at e
  ·rename_i hk;subst hk;cases e;simp
  ·rename_i hk
   rw[dM hk,vy e]
theorem yD{B:jc}{i:Nat}{b b0:TB B.S}: ∀{h:List (Nat×TB B.S)},bH h i=some b0->eR B i b0=eR B i b->mi B (eg h i b)=mi B h
 | [],hg,_=>by simp[cV]at hg
 |(k,z)::r,hg,e=>by
  simp only[cM]at hg
  simp only[tC]
  split
  ·rename_i hk
   rw[dD hk]at hg;cases hg;subst hk
   simp only[mi,e]
  ·rename_i hk
   rw[dM hk]at hg
   simp only[mi,yD hg e]
def Pn(B:jc)(id:Nat)(b:TB B.S)(M:TM B.S):TM B.S:=⟨M.o,M.k,M.bI,⟨eg M.s.heap id b,M.s.bT⟩⟩
theorem tB{B:jc}{P:Program}{N:Nat}{ρ:Option Nat}{Q:Exit->Env->St->Prop}{M:TM B.S}(fN id:Nat)(b b':TB B.S)(he:fx B b=fx B b')(k:RT B P N ρ Q (Pn B id b' (toReg B P N fN M).1))(hr:eR B id b=eR B id b':=by rfl)
  (hx:(ko (toReg B P N fN M).1.o,bH (toReg B P N fN M).1.s.heap id,(toReg B P N fN M).2.map Prod.fst)=(true,some b,(toReg B P N fN M).2.map Prod.snd):=by kernel_rfl):RT B P N ρ Q M:=by
 simp only[Prod.mk.injEq]at hx
 obtain⟨h1,h2,h3⟩:=hx
 refine⟨kE (dZ h3) ?_⟩
 have k:=k.v
 unfold Pn at k
 revert h1 h2 k
 show _->_->_->kD B P N ρ Q (toReg B P N fN M).1
 generalize(toReg B P N fN M).1=g
 intro h1 h2 k
 obtain⟨o,kk,bI,s⟩:=g
 have e:dl B ⟨eg s.heap id b',s.bT⟩=dl B s:=by
  simp only[dl,Cp,<-he,yD h2 hr]
  rw[vy (by rw[fX,h2];rfl)]
 cases o<;>simp only[ko]at h1<;>first|(cases h1;done)|skip
 ·have k:wW P N ρ Q ⟨.run _,kk,eJ B bI,dl B ⟨eg s.heap id b',s.bT⟩⟩:=k
  rw[e]at k
  exact k
 ·have k:wW P N ρ Q ⟨.out _,kk,eJ B bI,dl B ⟨eg s.heap id b',s.bT⟩⟩:=k
  rw[e]at k
  exact k
def Wt(B:jc)(t:Nat)(v:TV B.S)(M:TM B.S):TM B.S:=⟨M.o,M.k,eg M.bI t v,M.s⟩
theorem tE{B:jc}{P:Program}{N:Nat}{ρ:Option Nat}{Q:Exit->Env->St->Prop}{M:TM B.S}(fN t:Nat)(v v':TV B.S)(he:v.er B.E=v'.er B.E)(k:RT B P N ρ Q (Wt B t v' (toReg B P N fN M).1))
  (hx:(ko (toReg B P N fN M).1.o,bH (toReg B P N fN M).1.bI t,(toReg B P N fN M).2.map Prod.fst)=(true,some v,(toReg B P N fN M).2.map Prod.snd):=by kernel_rfl):RT B P N ρ Q M:=by
 simp only[Prod.mk.injEq]at hx
 obtain⟨h1,h2,h3⟩:=hx
 refine⟨kE (dZ h3) ?_⟩
 have k:=k.v
 unfold Wt at k
 revert h1 h2 k
 show _->_->_->kD B P N ρ Q (toReg B P N fN M).1
 generalize(toReg B P N fN M).1=g
 intro h1 h2 k
 obtain⟨o,kk,bI,s⟩:=g
 have e:eJ B (eg bI t v')=eJ B bI:=by
  rw[xn,<-he]
  exact vy (by rw[lB,h2];rfl)
 exact kD.bI (M:=⟨o,kk,bI,s⟩) e k
section
variable {B:jc} {m c n:Nat} {x:List (B.S c)}
theorem M6(h:0<n):fx B (.rows m c x [] n)=fx B (.rows m c x [.a (.sl true [])] (n-1)):=by
 obtain⟨k,rfl⟩: ∃k,n=k+1:=⟨n-1,by omega⟩
 simp[fx,dY,TV.er,List.replicate_succ]
theorem M7{w:TV B.S}{y:B.S c}(h:B.E c y=w.er B.E):fx B (.rows m c x [w] n)=fx B (.rows m c (x++[y]) [] n):=by
 simp[fx,dY,h]
theorem PU{k:Nat}(h:n=0/\k=x.length):fx B (.rows m c x [] n)=fx B (.ls m c x k h.2):=by
 obtain⟨h,_⟩:=h
 subst h;simp[fx,dY]
end
theorem nO{B:jc}{P:Program}{N:Nat}{ρ:Option Nat}{Q:Exit->Env->St->Prop}{M:TM B.S}{β:Type}{r:β}{p:Prop}[Decidable p]{x:Option β}(h:cu p x=some r)(k:p->x=some r->RT B P N ρ Q M):RT B P N ρ Q M:=k (L1 h).1 (L1 h).2
theorem UI{B:jc}{P:Program}{N:Nat}{ρ:Option Nat}{Q:Exit->Env->St->Prop}{M:TM B.S}{α β:Type}{r:β}{o:Option α}{K:α->Option β}(h:o.bind K=some r)(k: ∀a,o=some a->K a=some r->RT B P N ρ Q M):RT B P N ρ Q M:=
 let⟨a,ha,hK⟩:=mK h
 k a ha hK
section
variable {B:jc} {P:Program} {N:Nat} {ρ:Option Nat} {Q:Exit->Env->St->Prop} {M:TM B.S}
def Bx(M:TM B.S)(db ids:List Nat)(bT:Nat)(U:dK B.S×List (Nat×TB B.S)):TM B.S:=⟨M.o,M.k,U.1++lJ db M.bI,⟨U.2++kU ids M.s.heap,bT⟩⟩
theorem tV(fN:Nat)(db ids:List Nat)(bT:Nat)(U:dK B.S×List (Nat×TB B.S))(k:RT B P N ρ Q (Bx (toReg B P N fN M).1 db ids bT U))
  (hx:(ko (toReg B P N fN M).1.o,(toReg B P N fN M).2.map Prod.fst,(Aw B ρ (toReg B P N fN M).1.s.bT (Bx (toReg B P N fN M).1 db ids bT U).bI (Bx (toReg B P N fN M).1 db ids bT U).s (toReg B P N fN M).1).map Prod.fst)=
   (true,(toReg B P N fN M).2.map Prod.snd,(Aw B ρ (toReg B P N fN M).1.s.bT (Bx (toReg B P N fN M).1 db ids bT U).bI (Bx (toReg B P N fN M).1 db ids bT U).s (toReg B P N fN M).1).map Prod.snd):=by kernel_rfl):RT B P N ρ Q M:=by
 simp only[Prod.mk.injEq]at hx
 obtain⟨h1,h2,h3⟩:=hx
 refine⟨kE (dZ h2) ?_⟩
 obtain⟨Gd,L,hI⟩:=xx (dZ h3)
 have k:=k.v
 unfold Bx at k hI
 show kD B P N ρ Q (toReg B P N fN M).1
 generalize(toReg B P N fN M).1=g at *
 obtain⟨o,kk,bI,s⟩:=g
 have ho:ko o=true:=h1
 exact Iu ho Gd (eF _) hI k
end
section
variable {P:Program}
theorem Bz{G:cg}{s0:St}{w w':World}{e:Ending}{K:AV->St->Prop}(hs:eL G s0 w)
  (h:wM G s0 w (λy s=> ∃s1 y1 bR π S2 x2,s0.bT<=bR/\rR s y s1 y1/\qq bR π S2 s1/\Co (gw bR S2.heap) π x2 y1/\K x2 S2) e w'):wM G s0 w K e w':=by
 obtain⟨v,G',y,s',rfl,hV,hS,hE,s1,y1,bR,π,S2,x2,hb,ht,hi,hc,hk⟩:=h
 obtain⟨G1,h1,h2,h3⟩:=ht G' w' v hS hV
 have hE1:=hE.trans hs h2
 exact⟨v,_,x2,S2,rfl,hc.V Be h3,hi.toIntoM.iQ h1,hi.ext hs hE1 h1 hb,hk⟩
theorem EB{f:FuncId}{args:List AV}{s0:St}{K:AV->St->Prop}
  (h:dQ P f args s0 λy s=> ∃s1 y1 bR π S2 x2,s0.bT<=bR/\rR s y s1 y1/\qq bR π S2 s1/\Co (gw bR S2.heap) π x2 y1/\K x2 S2):dQ P f args s0 K:=λG w vs hs hv=>
 (h G w vs hs hv).mono λ_ _ hg=>Bz hs hg
theorem Eb{id:Nat}{args:List AV}{s0:St}{K:AV->St->Prop}
  (h:iY P id args s0 λy s=> ∃s1 y1 bR π S2 x2,s0.bT<=bR/\rR s y s1 y1/\qq bR π S2 s1/\Co (gw bR S2.heap) π x2 y1/\K x2 S2):iY P id args s0 K:=λo G w r vs hs ho hv=>by
 obtain⟨fn,tmps,assign,body,h1,h2⟩:=h o G w r vs hs ho hv
 exact⟨fn,tmps,assign,body,h1,h2.mono λ_ _ hg=>Bz hs hg⟩
end
section
variable {B:jc} {P:Program} {N:Nat} {ρ:Option Nat} {Q:Exit->Env->St->Prop} {M:TM B.S} {α β:Type} {r:β}
def cR(B:jc)(P:Program)(f:FuncId)(args:List (TV B.S))(H0:dP B.S)(X:α->TV B.S)(H1:α->dP B.S)(a:α):Prop:=
 dQ P f (dY B.E args) (dl B H0) λy t=>y=(X a).er B.E/\t=dl B (H1 a)
def KH(B:jc)(bR:Nat)(X:α->TV B.S)(H1:α->dP B.S)(a:α):AV->St->Prop:=λy s=> ∃s1 y1 yK π,bR<=yK/\rR s y s1 y1/\qq yK π (dl B (H1 a)) s1/\Co (gw yK (dl B (H1 a)).heap) π ((X a).er B.E) y1
theorem iN{f:FuncId}{args:List (TV B.S)}{H0:dP B.S}{X:α->TV B.S}{H1:α->dP B.S}{a:α}(h:RT B P (nF P f) none (JB P (rF P f).toArray (KH B H0.bT X H1 a)) ⟨.run (cF P f),[],J6 args 0,H0⟩)
  (hx:((Et P f).isSome&&Nat.ble args.length (nF P f)&&J8 B H0.heap)=true:=by kernel_rfl):cR B P f args H0 X H1 a:=by
 simp only[fi]at hx
 obtain⟨⟨h1,h2⟩,h3⟩:=hx
 have h:=h.v
 obtain⟨⟨n,rs,c⟩,hb⟩:=AM.1 h1
 have e1:nF P f=n:=by simp[nF,hb]
 have e2:rF P f=rs:=by simp[rF,hb]
 have e3:cF P f=c:=by simp[cF,hb]
 rw[e1,e2,e3]at h
 rw[e1]at h2
 refine EB ?_
 refine(QW (s:=dl B H0) n rs c _ hb Iw.symm (by rw[gN];exact h2) (xj h3) h).mono ?_
 rintro y s ⟨s1,y1,yK,π,k1,k2,k3,k4⟩
 exact⟨s1,y1,yK,π,_,_,k1,k2,k3,k4,rfl,rfl⟩
def Ti(B:jc)(P:Program)(fz:Bool)(bR:Nat)(rs:List ResultVar)(x:TV B.S)(S2:dP B.S)(M:TM B.S):Option iT:=match M.o with
 |.out e=>(match M.k with
  | []=>bif (match e with|.ret=>true|.normal=>true|_=>false)&&Bw B M.s then(match M4 B P M.bI M.s rs with
   |some l=>(match(bif fz then Eu (match l with| [x]=>x|l=>.ec l) (Ex M.s)else((match l with| [x]=>x|l=>.ec l),Ex M.s,[]))with
    |(y,s1,q)=>bif !fz||y.cl then(match Mc B bR (Md bR [(0,x)] S2 [(0,y)] s1) [(0,x)] S2 [(0,y)] s1 with
     |some q2=>some (q++q2)
     |none=>none)else none)
   |none=>none)else none
  |_=>none)
 |_=>none
def wk(o:Option iT):iT:=match o with
 |some q=>q
 |none=>[(.any,.iE)]
theorem yJ{o:Option iT}(h: ∀p∈wk o,p.1=p.2): ∃q,o=some q/\ ∀p∈q,p.1=p.2:=by
 cases o with
 |none=>have:=h (.any,.iE) (by simp[wk]);cases this
 |some q=>exact⟨q,rfl,h⟩
theorem cE{rs:List ResultVar}{bR:Nat}{X:α->TV B.S}{H1:α->dP B.S}{x a:α}(fz:Bool)(h:some x=some a)(hx:((wk (Ti B P fz bR rs (X x) (H1 x) (G B P N M).1)).map Prod.fst,(G B P N M).2.map Prod.fst)=
   ((wk (Ti B P fz bR rs (X x) (H1 x) (G B P N M).1)).map Prod.snd,(G B P N M).2.map Prod.snd):=by kernel_rfl):RT B P N none (JB P rs.toArray (KH B bR X H1 a)) M:=by
 cases h
 simp only[Prod.mk.injEq]at hx
 obtain⟨h2,h3⟩:=hx
 refine rT h3 ⟨?_⟩
 obtain⟨q,hr,hq⟩:=yJ (dZ h2)
 generalize(G B P N M).1=g at *
 obtain⟨o,k,bI,s⟩:=g
 unfold Ti at hr
 split at hr
 ·rename_i e ho
  simp only at ho;subst ho
  split at hr
  ·rename_i hk
   simp only at hk;subst hk
   generalize hq0:(match e with|.ret=>true|.normal=>true|_=>false)=b0 at hr
   cases hb:(b0&&Bw B s)with
   |false=>simp only[hb,dj]at hr;cases hr
   |true=>
    simp only[hb,cS]at hr
    simp only[fi]at hb
    have he:e=.ret\/e=.normal:=by
     rw[hb.1]at hq0
     cases e<;>simp_all
    split at hr
    ·rename_i l hl
     have hl:=CM hl
     generalize hy:(match l with| [x]=>x|l=>TV.ec l)=y0 at hr
     have FP:lE P rs.toArray (eJ B bI) (dl B s)=some (y0.er B.E):=by
      unfold lE
      simp only[hl]
      subst hy
      cases l with
      |nil=>rfl
      |cons x r=>cases r<;>rfl
     generalize hz:(bif fz then Eu y0 (Ex s)else(y0,Ex s,[]))=z at hr
     obtain⟨y,s1,q1⟩:=z
     simp only at hr
     cases hc:(!fz||y.cl)with
     |false=>simp only[hc,dj]at hr;cases hr
     |true=>
      simp only[hc,cS]at hr
      split at hr
      ·rename_i q2 h2
       cases hr
       have hI:=Cs h2 (λp hp=>hq p (FA _ hp))
       obtain⟨z,HV,Gl⟩:=hI.bI 0 (((X x).er B.E)) (by simp[eJ,cM])
       have HV:z=y.er B.E:=by simp[eJ,cM]at HV;exact HV.symm
       subst HV
       have ht:rR (dl B (Ex s)) (y0.er B.E) (dl B s1) (y.er B.E):=by
        cases fz with
        |false=>
         simp only[dj,Prod.mk.injEq]at hz
         obtain⟨e1,e2,_⟩:=hz
         subst e1;subst e2
         exact rR.refl _ _
        |true=>
         simp only[cS]at hz
         simp only[p8,Hx]at hc
         have hf:=Ix (B:=B) y0 (Ex s) (by rw[hz];exact hc) (by rw[hz];exactλp hp=>hq p (Dn _ hp))
         rw[hz]at hf
         have:=DO (dl B (Ex s)) (y0.er B.E)
         rw[hf]at this
         exact this
       have EA:F5 (dl B (Ex s)) (dl B s):=Ez hb.2
       have hK:KH B bR X H1 x (y0.er B.E) (dl B (Ex s)):=⟨_,_,bR,_,eF _,ht,hI.st,Gl⟩
       rcases he with rfl|rfl
       ·exactλG w a hn=>hn.after ⟨_,_,FP,EA,hK⟩
       ·exactλG w a hn=>hn.after ⟨_,_,FP,EA,hK⟩
      ·cases hr
    ·cases hr
  ·cases hr
 ·cases hr
section
variable {S:Nat->Type}
def J9(f:TV S->TV S):List (TV S)->List (TV S)
 | []=>[]
 |x::r=>f x::J9 f r
def EC(L:List (Nat×Nat)):Nat->TV S->TV S
 |0,x=>x
 |n+1,x=>match x with
  |.a y=>(match y with
   |.mp i e o=>.a (.mp (pi L i) e o)
   |.ms i a b=>.a (.ms (pi L i) a b)
   |.kK i=>.a (.kK (pi L i))
   |_=>x)
  |.pt i a b=>.pt (pi L i) a b
  |.fn g cs=>.fn g (J9 (EC L n) cs)
  |.agg cs=>.agg (J9 (EC L n) cs)
  |.ec cs=>.ec (J9 (EC L n) cs)
  |x=>x
def Rl(f:TV S->TV S):List (Nat×TV S)->List (Nat×TV S)
 | []=>[]
 |(i,x)::r=>(i,f x)::Rl f r
def aaj(L:List (Nat×Nat))(b:TB S):TB S:=match b with
 |.cH n l=>.cH n (J9 (EC L 4) l)
 |.lp c bI st pd=>.lp c (Rl (EC L 4) bI) st pd
 |.fm n c w cl pre kO post=>.fm n c (pi L w) cl pre (J9 (EC L 4) kO) post
 |b=>b
def Wu(L:List (Nat×Nat)):List (Nat×TB S)->List (Nat×TB S)
 | []=>[]
 |(i,b)::r=>(pi L i,aaj L b)::Wu L r
def za(L:List (Nat×Nat)):List (Nat×TB S)->List (Nat×TB S)
 | []=>[]
 |p::r=>bif (bH L p.1).isSome then p::za L r else za L r
def prA(cq args:List (TV S))(H0 s:dP S):List (Nat×Nat):=
 match OA (OB s.bT 4) cq args with
 |l0=>match l0++Rh s.bT false l0 s.heap (za l0 H0.heap)with
  |l1=>match l1++Rh s.bT false l1 s.heap (za l1 H0.heap)with
   |l2=>match l2++Rh s.bT false l2 s.heap (za l2 H0.heap)with
    |l3=>match l3++Rh s.bT false l3 s.heap (za l3 H0.heap)with
     |l4=>l4++Rh s.bT true l4 s.heap (za l4 H0.heap)
def Tj(c0 bT:Nat)(L:List (Nat×Nat)):List (Nat×TB S)->List (Nat×Nat)
 | []=>[]
 |(i,_)::r=>bif (bH L i).isSome then Tj c0 bT L r else(i,bT+(i-c0))::Tj c0 bT L r
def uq(h:List (Nat×TB S))(L:List (Nat×Nat)):List (Nat×Nat):=match h with
 | []=>[]
 |(i,_)::r=>(pi L i,i)::uq r L
def M8(ids:List Nat):List (Nat×TB S)->List Nat
 | []=>[]
 |(i,_)::r=>bif jE i ids then M8 ids r else i::M8 ids r
def CP(P:Program)(op:Op)(bI:dK S):Option (FuncId×List (TV S)):=match ga op with
 |some (f,a)=>match fk bI f with
  |some (.fn g fQ)=>match pc bI a with
   |some l=>bif enters P g then some (g,l++fQ)else none
   |none=>none
  |_=>none
 |none=>none
end
section
variable (B:jc) (P:Program)
def PV(hp:Oz B.S)(ok:Nat->Bool)(π:Nat->Nat)(s:dP B.S):List (Nat×TB B.S)->Option iT
 | []=>some []
 |(id,b)::r=>rV (match bH s.heap (π id)with
  |some b'=>yY B hp ok π b b'
  |none=>none) (PV hp ok π s r)
def PW(hp:Oz B.S)(ok:Nat->Bool)(σ:Nat->Nat)(H1:dP B.S):List (Nat×TB B.S)->Option iT
 | []=>some []
 |(id,b)::r=>rV (match bH H1.heap (σ id)with
  |some b'=>yY B hp ok σ b b'
  |none=>none) (PW hp ok σ H1 r)
def Iy{S:Nat->Type}(rest:List (Nat×TB S))(id:Nat):Bool:=jE id (rest.map (·.1))||rest.any λp=>fR p.2&&!(fL p.1 id)
def Ec(Lp Ls:List (Nat×Nat))(H0 H1 s:dP B.S)(j0 rest:List (Nat×TB B.S))(bT:Nat):Bool:=
 H0.heap.all (λp=>Nat.blt p.1 H0.bT&&(!(fR p.2)||Nat.blt (pi Lp p.1) s.bT)&&H0.heap.all λq=>Nat.beq p.1 q.1||!(Nat.beq (pi Lp p.1) (pi Lp q.1)))&&
 j0.all (λp=>Nat.blt p.1 bT&&!(jE p.1 (rest.map (·.1)))&&(!(fR p.2)||Nat.blt (pi Ls p.1) H1.bT)&&(Nat.ble s.bT p.1||((bH H0.heap (pi Ls p.1)).isSome&&Nat.beq (pi Lp (pi Ls p.1)) p.1))&&j0.all λq=>Nat.beq p.1 q.1||!(Nat.beq (pi Ls p.1) (pi Ls q.1)))&&
 rest.all (λp=>Nat.blt p.1 bT&&H0.heap.all λq=>!(Nat.beq (pi Lp q.1) p.1))&&
 Nat.ble s.bT bT&&Bf (kC B s.heap) (kC B (j0++rest))&&
 (pN H0.heap&&pN H1.heap&&pN s.heap&&pN (j0++rest)&&Bg bT (j0++rest)&&Bg H0.bT H0.heap)
def PX(Ls:List (Nat×Nat))(H0 H1:dP B.S)(n:Nat):List (Nat×TB B.S)->Option iT
 | []=>some []
 |(id,b)::r=>rV (bif fR b&&Nat.blt id n then(match bH H1.heap (pi Ls id)with
  |some b1=>(match bH H0.heap (pi Ls id)with
   |some b0=>yY B ([],[]) (λ_=>true) (pi []) b1 b0
   |none=>none)
  |none=>none)else some []) (PX Ls H0 H1 n r)
def oZ(Lp Lr:List (Nat×Nat))(j0 rest:List (Nat×TB B.S))(cq:List (TV B.S))(H0:dP B.S)(x:TV B.S)(H1:dP B.S)(args:List (TV B.S))(s:dP B.S):TV B.S×dP B.S×iT:=
 (EC Lr 4 x,⟨j0++rest,s.bT+(H1.bT-H0.bT)⟩,match(bif Ec B Lp (uq H1.heap Lr) H0 H1 s j0 rest (s.bT+(H1.bT-H0.bT))then
   rV (KI (GK B (H0.heap,s.heap) (gw 0 (dl B H0).heap) (pw Lp (jF Lp s.bT H0.heap)) 4) cq args) (rV (GK B (j0,H1.heap) (okF (Iy rest) (dl B ⟨j0++rest,s.bT+(H1.bT-H0.bT)⟩).heap) (pw (uq H1.heap Lr) (jF (uq H1.heap Lr) H1.bT j0)) 4 (EC Lr 4 x) x) (rV (PV B (H0.heap,s.heap) (gw 0 (dl B H0).heap) (pw Lp (jF Lp s.bT H0.heap)) s H0.heap)
    (rV (PW B (j0,H1.heap) (okF (Iy rest) (dl B ⟨j0++rest,s.bT+(H1.bT-H0.bT)⟩).heap) (pw (uq H1.heap Lr) (jF (uq H1.heap Lr) H1.bT j0)) H1 j0) (PX B (uq H1.heap Lr) H0 H1 s.bT j0))))else none)with
  |some q=>q
  |none=>[(.any,.iE)])
def eU(cq:List (TV B.S))(H0:dP B.S)(x:TV B.S)(H1:dP B.S)(args:List (TV B.S))(s:dP B.S):TV B.S×dP B.S×iT:=
 match prA cq args H0 s with
 |Lp=>match Lp++Tj H0.bT s.bT Lp H1.heap with
  |Lr=>oZ B Lp Lr (Wu Lr H1.heap) (kU (M8 (H0.heap.map λp=>pi Lp p.1) s.heap) s.heap) cq H0 x H1 args s
end
theorem zb{hp:Oz B.S}{ok:Nat->Bool}{π:Nat->Nat}{s:dP B.S}: ∀{h:List (Nat×TB B.S)}{q:iT},PV B hp ok π s h=some q->(∀p∈q,p.1=p.2)-> ∀{id:Nat}{b:TB B.S},bH h id=some b-> ∃b' q',bH s.heap (π id)=some b'/\yY B hp ok π b b'=some q'/\ ∀p∈q',p.1=p.2
 | [],_,_,_,id,_,hg=>by simp[cV]at hg
 |(k,b0)::r,q,h,hq,id,b,hg=>by
  obtain⟨⟨q1,h1,e1⟩,q2,h2,e2⟩:=fY h hq
  simp only[cM]at hg
  split at hg
  ·rename_i e
   cases hg;subst e
   split at h1
   ·rename_i b' hb;exact⟨b',_,hb,h1,e1⟩
   ·cases h1
  ·exact zb h2 e2 hg
theorem qC{hp:Oz B.S}{ok:Nat->Bool}{σ:Nat->Nat}{H1:dP B.S}: ∀{h:List (Nat×TB B.S)}{q:iT},PW B hp ok σ H1 h=some q->(∀p∈q,p.1=p.2)-> ∀{id:Nat}{b:TB B.S},bH h id=some b-> ∃b' q',bH H1.heap (σ id)=some b'/\yY B hp ok σ b b'=some q'/\ ∀p∈q',p.1=p.2
 | [],_,_,_,id,_,hg=>by simp[cV]at hg
 |(k,b0)::r,q,h,hq,id,b,hg=>by
  obtain⟨⟨q1,h1,e1⟩,q2,h2,e2⟩:=fY h hq
  simp only[cM]at hg
  split at hg
  ·rename_i e
   cases hg;subst e
   split at h1
   ·rename_i b' hb;exact⟨b',_,hb,h1,e1⟩
   ·cases h1
  ·exact qC h2 e2 hg
theorem ED{Ls:List (Nat×Nat)}{H0 H1:dP B.S}{n:Nat}: ∀{h:List (Nat×TB B.S)}{q:iT},PX B Ls H0 H1 n h=some q->(∀p∈q,p.1=p.2)-> ∀{id:Nat}{b:TB B.S},bH h id=some b->fR b=true->id<n-> ∃b1 b0 q',bH H1.heap (pi Ls id)=some b1/\bH H0.heap (pi Ls id)=some b0/\yY B ([],[]) (λ_=>true) (pi []) b1 b0=some q'/\ ∀p∈q',p.1=p.2
 | [],_,_,_,id,_,hg,_,_=>by simp[cV]at hg
 |(k,c)::r,q,h,hq,id,b,hg,hf,hn=>by
  obtain⟨⟨q1,h1,e1⟩,q2,h2,e2⟩:=fY h hq
  simp only[cM]at hg
  split at hg
  ·rename_i e
   cases hg;subst e
   simp only[hf,JP hn,Bool.and_true,cS]at h1
   split at h1
   ·rename_i b1 vf
    split at h1
    ·rename_i b0 DE;exact⟨b1,b0,_,vf,DE,h1,e1⟩
    ·cases h1
   ·cases h1
  ·exact ED h2 e2 hg hf hn
theorem HW{x:Nat}{l:List Nat}(h:x∈l):jE x l=true:=by
 unfold jE
 exact vV.2 ⟨x,h,Og x⟩
theorem Wv{rest:List (Nat×TB B.S)}{id:Nat}{b:TB B.S}(h:bH rest id=some b):jE id (rest.map (·.1))=true:=HW (jJ.2 ⟨(id,b),nW h,rfl⟩)
theorem Gu{a b:List (Nat×TB B.S)}:kC B (a++b)=kC B a++kC B b:=by
 induction a with
 |nil=>rfl
 |cons p r ih=>obtain⟨i,x⟩:=p;simp only[wI,kC,ih]
theorem jL{h:List (Nat×TB B.S)}{id:Nat}{b:TB B.S}: ∀{ks:List Nat},bH (kU ks h) id=some b->bH h id=some b
 | [],hg=>by simp[kU,cV]at hg
 |k::r,hg=>by
  unfold kU at hg
  split at hg
  ·rename_i c hc
   simp only[cM]at hg
   split at hg
   ·rename_i e;cases hg;subst e;exact hc
   ·exact jL hg
  ·exact jL hg
section
variable {Lp Ls:List (Nat×Nat)} {H0 H1 s:dP B.S} {j0 rest:List (Nat×TB B.S)} {bT:Nat} {ks:List Nat}
theorem H6(wb:rest=kU ks s.heap)(hb:Ec B Lp Ls H0 H1 s j0 rest bT=true){q1 q2 q3:iT}
  (h1:PV B (H0.heap,s.heap) (gw 0 (dl B H0).heap) (pw Lp (jF Lp s.bT H0.heap)) s H0.heap=some q1) (e1: ∀p∈q1,p.1=p.2)
  (h2:PW B (j0,H1.heap) (okF (Iy rest) (dl B ⟨j0++rest,bT⟩).heap) (pw Ls (jF Ls H1.bT j0)) H1 j0=some q2) (e2: ∀p∈q2,p.1=p.2)
  (h3:PX B Ls H0 H1 s.bT j0=some q3) (e3: ∀p∈q3,p.1=p.2):
  Fits (pw Lp (jF Lp s.bT H0.heap)) (pw Ls (jF Ls H1.bT j0)) (Iy rest) (dl B H0) (dl B H1) (dl B s) (dl B ⟨j0++rest,bT⟩):=by
 simp only[Ec,fi]at hb
 obtain⟨⟨⟨⟨⟨b1,b2⟩,b3⟩,b4⟩,b5⟩,⟨⟨⟨⟨w0,w1⟩,w2⟩,w3⟩,w4⟩,w5⟩:=hb
 have b4:=tA b4
 have k0: ∀{id b},bH H0.heap id=some b->id<H0.bT/\(fR b=true->pi Lp id<s.bT)/\(∀{fG b'},bH H0.heap fG=some b'->pi Lp id=pi Lp fG->id=fG)/\ ∃b',bH s.heap (pi Lp id)=some b'/\(fR b=true->b'=b):=λ{id b}hg=>by
  have:=dU b1 hg
  simp only[fi,rO,tz,p9]at this
  obtain⟨⟨c1,c2⟩,c3⟩:=this
  refine⟨c1,λhf=>?_,λ{fG b'}kv e=>?_,?_⟩
  ·rcases c2 with h|h
   ·rw[hf]at h;cases h
   ·exact h
  ·have:=dU c3 kv
   simp only[tz,p9]at this
   rcases this with h|h
   ·exact jh h
   ·exact absurd e (Aq h)
  ·obtain⟨b',q',g1,g2,g3⟩:=zb h1 e1 hg
   rw[kX w0 hg]at g1
   refine⟨b',g1,λhf=>?_⟩
   obtain⟨c,cl,pre,n,post,rfl⟩:=lH hf
   exact xw g2 g3
 have Ka: ∀{w b id x},bH H0.heap w=some b->bH (eR B w b) id=some x->pw Lp (jF Lp s.bT H0.heap) id=pi Lp w+(id-w)/\fL w id=false/\fR b=true:=λ{w b id x}hg hx=>by
  obtain⟨f1,f2⟩:=ff hx
  exact⟨Gk w0 hg f1 ((k0 hg).2.1 f1) f2,f2,f1⟩
 have Tk:yx B H0.heap (gw 0 (dl B H0).heap) (pw Lp (jF Lp s.bT H0.heap)):=λw b hg id x hx=>⟨qs (jo w0 hg hx),by rw[(Ka hg hx).1,kX w0 hg]⟩
 have Yj: ∀{i x},bH (dl B H0).heap i=some x->(∃b b',bH H0.heap i=some b/\pw Lp (jF Lp s.bT H0.heap) i=pi Lp i/\bH s.heap (pi Lp i)=some b')\/(∃w b,bH H0.heap w=some b/\fR b=true/\bH (eR B w b) i=some x/\pw Lp (jF Lp s.bT H0.heap) i=pi Lp w+(i-w)/\bH s.heap (pi Lp w)=some b/\fL (pi Lp w) (pi Lp w+(i-w))=false):=λ{i x}hx=>by
  rcases gU w0 hx with⟨b,hg,rfl⟩|⟨_,w,b,hg,hr⟩
  ·obtain⟨_,_,_,b',g1,_⟩:=k0 hg
   exact .inl ⟨b,b',hg,kX w0 hg,g1⟩
  ·obtain⟨r1,r2,r3⟩:=Ka hg hr
   obtain⟨_,_,_,b',g1,g2⟩:=k0 hg
   have:=g2 r3
   subst this
   obtain⟨o1,o2⟩:=fe r2
   exact .inr ⟨w,_,hg,r3,hr,r1,g1,lA (by omega) (by omega)⟩
 have kd: ∀{id b},bH j0 id=some b->id<bT/\bH rest id=none/\(fR b=true->pi Ls id<H1.bT)/\(id<s.bT->(∃b0,bH H0.heap (pi Ls id)=some b0)/\pi Lp (pi Ls id)=id)/\ ∀{fG b'},bH j0 fG=some b'->pi Ls id=pi Ls fG->id=fG:=λ{id b}hg=>by
  have:=dU b2 hg
  simp only[fi,rO,tz,p9,Ji]at this
  obtain⟨⟨⟨⟨c1,c2⟩,c3⟩,c4⟩,c5⟩:=this
  refine⟨c1,?_,λhf=>?_,λhl=>?_,λ{fG b'}kv e=>?_⟩
  ·cases hr:bH rest id with
   |none=>rfl
   |some x=>rw[Wv hr]at c2;cases c2
  ·rcases c3 with h|h
   ·rw[hf]at h;cases h
   ·exact h
  ·rcases c4 with h|h
   ·omega
   ·exact⟨AM.1 h.1,jh h.2⟩
  ·have:=dU c5 kv
   simp only[tz,p9]at this
   rcases this with h|h
   ·exact jh h
   ·exact absurd e (Aq h)
 have Iz: ∀{id b},bH j0 id=some b->bH (j0++rest) id=some b:=λhg=>by rw[cZ,hg]
 have wd:pN j0=true:=by
  have: ∀{a b:List (Nat×TB B.S)},pN (a++b)=true->pN a=true:=by
   intro a
   induction a with
   |nil=>intro b _;rfl
   |cons p r ih=>
    intro b h
    obtain⟨k,x⟩:=p
    simp only[wI,pN,List.all_append,fi]at h |-
    exact⟨h.1.1,ih h.2⟩
  exact this w3
 have sX: ∀{id x},bH (dl B ⟨j0++rest,bT⟩).heap id=some x->(∃b,bH j0 id=some b/\x=fx B b/\Iy rest id=false)\/(∃b,bH rest id=some b/\x=fx B b/\Iy rest id=true)\/
   (∃w b,bH j0 w=some b/\fR b=true/\fL w id=false/\bH (eR B w b) id=some x/\Iy rest id=false)\/(∃w b,bH rest w=some b/\fR b=true/\fL w id=false/\bH (eR B w b) id=some x/\Iy rest id=true):=λ{id x}hx=>by
  have frF:(bH rest id=none)->(∀w b,bH (j0++rest) w=some b->fR b=true->fL w id=false->bH rest w=none)->(∀p∈rest,fR p.2=true->fL p.1 id=true)->Iy rest id=false:=λh1 _ h3=>by
   unfold Iy
   rw[Fx]
   constructor
   ·cases hm:jE id (rest.map (·.1))with
    |false=>rfl
    |true=>
     exfalso
     unfold jE at hm
     obtain⟨y,hy,hb⟩:=vV.1 hm
     have:=jh hb
     subst this
     obtain⟨p,hp,e⟩:=jJ.1 hy
     have: ∀{l:List (Nat×TB B.S)}{k:Nat},(∃p∈l,p.1=k)->bH l k≠none:=by
      intro l
      induction l with
      |nil=>rintro k ⟨p,hp,_⟩;simp at hp
      |cons a r ih=>
       rintro k ⟨p,hp,e⟩
       obtain⟨i,z⟩:=a
       simp only[cM]
       split
       ·simp
       ·rename_i eV
        simp only[mU]at hp
        rcases hp with rfl|hp
        ·exact absurd e eV
        ·exact ih ⟨p,hp,e⟩
     exact this ⟨p,hp,e⟩ h1
   ·cases hm:rest.any λp=>fR p.2&&!(fL p.1 id)with
    |false=>rfl
    |true=>
     exfalso
     obtain⟨p,hp,hb⟩:=vV.1 hm
     simp only[fi,p9]at hb
     rw[h3 p hp hb.1]at hb;cases hb.2
  have frR: ∀p∈rest,fR p.2=true->bH (j0++rest) p.1=some p.2:=λp hp hf=>by
   have: ∀{a b:List (Nat×TB B.S)},pN (a++b)=true-> ∀p∈b,fR p.2=true->bH (a++b) p.1=some p.2:=by
    intro a
    induction a with
    |nil=>
     intro b
     induction b with
     |nil=>intro _ p hp;simp at hp
     |cons x r ih=>
      intro h p hp hf
      obtain⟨k,z⟩:=x
      simp only[rN,pN,fi]at h
      simp only[mU]at hp
      simp only[rN,cM]
      rcases hp with rfl|hp
      ·simp
      ·have:=pT.1 h.1 p hp
       simp only[lW,hf,cS,fi,p9]at this
       rw[dM (Aq this.2.2)]
       exact ih (by simpa using h.2) p hp hf
    |cons x r ih=>
     intro b h p hp hf
     obtain⟨k,z⟩:=x
     simp only[wI,pN,fi]at h
     simp only[wI,cM]
     have:=pT.1 h.1 p (FA _ hp)
     simp only[lW,hf,cS,fi,p9]at this
     rw[dM (Aq this.2.2)]
     exact ih h.2 p hp hf
   exact this w3 p hp hf
  rcases gU (s:=⟨j0++rest,bT⟩) w3 hx with⟨b,hg,rfl⟩|⟨hn,w,b,hg,hr⟩
  ·have rP: ∀p∈rest,fR p.2=true->fL p.1 id=true:=λp hp hf=>iJ w3 (frR p hp hf) hg hf
   have kv:=hg
   simp only at kv
   rw[cZ]at kv
   split at kv
   ·rename_i y hy
    cases kv
    exact .inl ⟨_,hy,rfl,frF (kd hy).2.1 (λw b' h1 h2 h3=>by rw[iJ w3 h1 hg h2]at h3;cases h3) rP⟩
   ·exact .inr (.inl ⟨_,kv,rfl,by unfold Iy;rw[Wv kv];rfl⟩)
  ·obtain⟨f1,f2⟩:=ff hr
   have kv:=hg
   simp only at kv hn
   rw[cZ]at kv
   split at kv
   ·rename_i y hy
    cases kv
    refine .inr (.inr (.inl ⟨w,_,hy,f1,f2,hr,frF ?_ (λw' b' h1 h2 h3=>?_) λp hp hf=>?_⟩))
    ·rw[cZ]at hn
     split at hn
     ·cases hn
     ·exact hn
    ·have:=lX w3 h1 hg h2 f1 h3 f2
     subst this
     exact(kd hy).2.1
    ·cases ho:fL p.1 id with
     |true=>rfl
     |false=>
      exfalso
      have:=lX w3 (frR p hp hf) hg hf f1 ho f2
      have R2:=(kd hy).2.1
      rw[<-this]at R2
      have: ∀{l:List (Nat×TB B.S)}{k:Nat},(∃p∈l,p.1=k)->bH l k≠none:=by
       intro l
       induction l with
       |nil=>rintro k ⟨p,hp,_⟩;simp at hp
       |cons a r ih=>
        rintro k ⟨p,hp,e⟩
        obtain⟨i,z⟩:=a
        simp only[cM]
        split
        ·simp
        ·rename_i eV
         simp only[mU]at hp
         rcases hp with rfl|hp
         ·exact absurd e eV
         ·exact ih ⟨p,hp,e⟩
      exact this ⟨p,hp,rfl⟩ R2
   ·refine .inr (.inr (.inr ⟨w,_,kv,f1,f2,hr,?_⟩))
    unfold Iy
    rw[tz]
    right
    exact vV.2 ⟨_,nW kv,by simp only[f1,f2];rfl⟩
 have M9: ∀{id b},bH j0 id=some b->pw Ls (jF Ls H1.bT j0) id=pi Ls id:=λhg=>kX wd hg
 have kQ: ∀{w b id x},bH j0 w=some b->bH (eR B w b) id=some x->pw Ls (jF Ls H1.bT j0) id=pi Ls w+(id-w):=λ{w b id x}hg hx=>by
  obtain⟨f1,f2⟩:=ff hx
  exact Gk wd hg f1 ((kd hg).2.2.1 f1) f2
 have hF1:yx B j0 (okF (Iy rest) (dl B ⟨j0++rest,bT⟩).heap) (pw Ls (jF Ls H1.bT j0)):=λw b hg id x hx=>by
  obtain⟨f1,f2⟩:=ff hx
  have nN:=jo (s:=⟨j0++rest,bT⟩) w3 (Iz hg) hx
  refine⟨?_,by rw[kQ hg hx,M9 hg]⟩
  unfold okF
  rw[iA.2 ⟨_,nN⟩,Uh]
  rcases sX nN with⟨_,_,_,h⟩|⟨b',h,_,_⟩|⟨_,_,_,_,_,_,h⟩|⟨w',b',h,g1,g2,_,_⟩
  ·rw[h];rfl
  ·exfalso
   have:=iJ (h:=j0++rest) (id:=id) (b':=b') w3 (Iz hg) (by
    rw[cZ]
    cases hq:bH j0 id with
    |none=>exact h
    |some z=>rw[(kd hq).2.1]at h;cases h) f1
   rw[this]at f2;cases f2
  ·rw[h];rfl
  ·exfalso
   have Yk:bH (j0++rest) w'=some b':=by
    rw[cZ]
    cases hq:bH j0 w' with
    |none=>exact h
    |some z=>rw[(kd hq).2.1]at h;cases h
   have:=lX w3 Yk (Iz hg) g1 f1 g2 f2
   subst this
   rw[(kd hg).2.1]at h;cases h
 have hS: ∀{w b id x},bH j0 w=some b->bH (eR B w b) id=some x-> ∃x',bH (dl B H1).heap (pi Ls w+(id-w))=some x'/\Bd (okF (Iy rest) (dl B ⟨j0++rest,bT⟩).heap) (pw Ls (jF Ls H1.bT j0)) x x'/\bH H1.heap (pi Ls w)=some b:=λ{w b id x}hg hx=>by
  obtain⟨f1,f2⟩:=ff hx
  obtain⟨c,cl,pre,n,post,rfl⟩:=lH f1
  obtain⟨b',q',g1,g2,g3⟩:=qC h2 e2 hg
  rw[M9 hg]at g1
  have:=xw g2 g3
  subst this
  obtain⟨x',pV,hc⟩:=ub (w':=pi Ls w) (λid x hx=>⟨(hF1 w _ hg id x hx).1,kQ hg hx⟩) id x hx
  exact⟨x',jo w1 g1 pV,hc,g1⟩
 refine⟨?_,?_,?_,?_,?_,?_,?_,b4,?_⟩
 ·intro id x hx
  rcases gU w0 hx with⟨b,hg,rfl⟩|⟨_,w,b,hg,hr⟩
  ·obtain⟨b',q',g1,g2,g3⟩:=zb h1 e1 hg
   exact⟨_,dp g1,CK Tk g2 g3⟩
  ·obtain⟨r1,r2,r3⟩:=Ka hg hr
   obtain⟨_,_,_,b',g1,g2⟩:=k0 hg
   have:=g2 r3
   subst this
   obtain⟨c,cl,pre,n,post,rfl⟩:=lH r3
   obtain⟨x',pV,hc⟩:=ub (w':=pi Lp w) (λid x hx=>⟨(Tk w _ hg id x hx).1,(Ka hg hx).1⟩) id x hr
   exact⟨x',by rw[r1];exact jo w2 g1 pV,hc⟩
 ·intro id fG x x' hx pV e
  rcases Yj hx with⟨b,b',g1,g2,g3⟩|⟨w,b,g1,f1,g2,g3,g4,g5⟩<;>rcases Yj pV with⟨b2,b2',g1',Yl,Sa⟩|⟨w',b2,g1',OD,Yl,Sa,g4',g5'⟩
  ·exact(k0 g1).2.2.1 g1' (by rw[<-g2,<-Yl,e])
  ·exfalso
   have:=iJ w2 g4' g3 OD
   rw[<-g2,e,Sa,g5']at this;cases this
  ·exfalso
   have:=iJ w2 g4 Sa f1
   rw[<-Yl,<-e,g3,g5]at this;cases this
  ·have hw:=lX w2 g4 g4' f1 OD g5 (by rw[<-g3,e,Sa];exact g5')
   have:=(k0 g1).2.2.1 g1' hw
   subst this
   obtain⟨o1,o2⟩:=fe (ff g2).2
   obtain⟨o3,o4⟩:=fe (ff Yl).2
   omega
 ·intro id x hx
  rcases gU w0 hx with⟨b,hg,rfl⟩|⟨_,w,b,hg,hr⟩
  ·exact(k0 hg).1
  ·obtain⟨_,r2,r3⟩:=Ka hg hr
   have:=dU w5 hg
   simp only[r3,p8,Hx]at this
   have:=tA this
   obtain⟨o1,o2⟩:=fe r2
   show id<H0.bT
   omega
 ·intro id x hx hf
  rcases sX hx with⟨b,hg,rfl,_⟩|⟨_,_,_,h⟩|⟨w,b,hg,f1,f2,hr,_⟩|⟨_,_,_,_,_,_,h⟩
  ·obtain⟨b',q',g1,g2,g3⟩:=qC h2 e2 hg
   refine⟨_,dp g1,CK hF1 g2 g3,λhl=>?_⟩
   obtain⟨⟨b0,k1⟩,k2⟩:=(kd hg).2.2.2.1 hl
   rw[M9 hg]
   exact⟨iA.2 ⟨_,dp k1⟩,by rw[kX w0 k1];exact k2⟩
  ·rw[h]at hf;cases hf
  ·obtain⟨x',q1,q2,q3⟩:=hS hg hr
   refine⟨x',by rw[kQ hg hr];exact q1,q2,λhl=>?_⟩
   obtain⟨o1,o2⟩:=fe f2
   have uT:w<s.bT:=Nat.lt_trans o1 hl
   obtain⟨b1,b0,q',g1,g2,g3,g4⟩:=ED h3 e3 hg f1 uT
   rw[q3]at g1;cases g1
   obtain⟨c,cl,pre,n,post,rfl⟩:=lH f1
   have:=xw g3 g4
   subst this
   obtain⟨x2,QX,_⟩:=ub (w':=pi Ls w) (ok:=λ_=>true) (π:=λid=>pi Ls w+(id-w)) (λid x hx=>⟨rfl,rfl⟩) id x hr
   have k2:=((kd hg).2.2.2.1 uT).2
   rw[kQ hg hr]
   refine⟨iA.2 ⟨_,jo w0 g2 QX⟩,?_⟩
   rw[(Ka g2 QX).1,k2]
   omega
  ·rw[h]at hf;cases hf
 ·intro id x hx hf
  rcases sX hx with⟨_,_,_,h⟩|⟨b,hg,rfl,_⟩|⟨_,_,_,_,_,_,h⟩|⟨w,b,hg,f1,f2,hr,_⟩
  ·rw[h]at hf;cases hf
  ·have hs:bH s.heap id=some b:=by subst wb;exact jL hg
   refine⟨dp hs,λi x' hi e=>?_⟩
   rcases Yj hi with⟨b',b2,g1,g2,g3⟩|⟨w',b',g1,OD,g2,g3,g4,g5⟩
   ·have:=dU b3 hg
    simp only[fi]at this
    have:=dU this.2 g1
    simp only[p9]at this
    exact Aq this (by rw[<-g2,e])
   ·have:=iJ w2 g4 hs OD
    rw[<-e,g3,g5]at this;cases this
  ·rw[h]at hf;cases hf
  ·have hs:bH s.heap w=some b:=by subst wb;exact jL hg
   refine⟨jo w2 hs hr,λi x' hi e=>?_⟩
   rcases Yj hi with⟨b',b2,g1,g2,g3⟩|⟨w',b',g1,OD,g2,g3,g4,g5⟩
   ·have:=iJ w2 hs g3 f1
    rw[<-g2,e,f2]at this;cases this
   ·have hw:=lX w2 g4 hs OD f1 (by rw[<-g3,e,g3]at *;exact g5) (by exact f2)
    have:=dU b3 hg
    simp only[fi]at this
    have:=dU this.2 g1
    simp only[p9]at this
    exact Aq this hw
 ·intro id fG x x' hx pV hf uU e
  rcases sX hx with⟨b,hg,_,_⟩|⟨_,_,_,h⟩|⟨w,b,hg,f1,f2,hr,_⟩|⟨_,_,_,_,_,_,h⟩
  ·rcases sX pV with⟨b',kv,_,_⟩|⟨_,_,_,h⟩|⟨w',b',kv,OD,f2',Gj,_⟩|⟨_,_,_,_,_,_,h⟩
   ·exact(kd hg).2.2.2.2 kv (by rw[<-M9 hg,<-M9 kv,e])
   ·rw[h]at uU;cases uU
   ·exfalso
    obtain⟨y,q1,_,q3⟩:=hS kv Gj
    obtain⟨b2,q',g1,_,_⟩:=qC h2 e2 hg
    rw[e,kQ kv Gj]at g1
    have:=iJ w1 q3 g1 OD
    obtain⟨o1,o2⟩:=fe f2'
    rw[lA (by omega) (by omega)]at this;cases this
   ·rw[h]at uU;cases uU
  ·rw[h]at hf;cases hf
  ·rcases sX pV with⟨b',kv,_,_⟩|⟨_,_,_,h⟩|⟨w',b',kv,OD,f2',Gj,_⟩|⟨_,_,_,_,_,_,h⟩
   ·exfalso
    obtain⟨y,q1,_,q3⟩:=hS hg hr
    obtain⟨b2,q',g1,_,_⟩:=qC h2 e2 kv
    rw[<-e,kQ hg hr]at g1
    have:=iJ w1 q3 g1 f1
    obtain⟨o1,o2⟩:=fe f2
    rw[lA (by omega) (by omega)]at this;cases this
   ·rw[h]at uU;cases uU
   ·obtain⟨y,_,_,q3⟩:=hS hg hr
    obtain⟨y',_,_,q3'⟩:=hS kv Gj
    rw[kQ hg hr,kQ kv Gj]at e
    obtain⟨o1,o2⟩:=fe f2
    obtain⟨o3,o4⟩:=fe f2'
    have hw:=lX (id:=pi Ls w+(id-w)) w1 q3 q3' f1 OD (lA (by omega) (by omega)) (lA (by omega) (by omega))
    have:=(kd hg).2.2.2.2 kv hw
    subst this
    omega
   ·rw[h]at uU;cases uU
  ·rw[h]at hf;cases hf
 ·intro id x hx
  rcases sX hx with⟨b,hg,_,_⟩|⟨b,hg,_,_⟩|⟨w,b,hg,f1,f2,hr,_⟩|⟨w,b,hg,f1,f2,hr,_⟩
  ·exact(kd hg).1
  ·have:=dU b3 hg
   simp only[fi,rO]at this
   exact this.1
  ·have:=dU w4 (Iz hg)
   simp only[f1,p8,Hx]at this
   have:=tA this
   obtain⟨o1,o2⟩:=fe f2
   show id<bT
   omega
  ·have kv:bH (j0++rest) w=some b:=by
    rw[cZ]
    cases hq:bH j0 w with
    |none=>exact hg
    |some z=>rw[(kd hq).2.1]at hg;cases hg
   have:=dU w4 kv
   simp only[f1,p8,Hx]at this
   have:=tA this
   obtain⟨o1,o2⟩:=fe f2
   show id<bT
   omega
 ·intro id hd
  rcases gU w2 hd with⟨b,hg,hb⟩|⟨hn,w,b,hg,hr⟩
  ·have:=nY b5 id (by rw[fX,hg,gy,<-hb])
   simp only[dl]
   rw[cZ,this]
  ·exact(nZ hr).elim
end
theorem Kb{f:FuncId}{cq args:List (TV B.S)}{H0 H1 s:dP B.S}{x:TV B.S}{Lp Lr:List (Nat×Nat)}{j0 rest:List (Nat×TB B.S)}{ks:List Nat}(wb:rest=kU ks s.heap)
  (h:dQ P f (dY B.E cq) (dl B H0) λy t=>y=x.er B.E/\t=dl B H1)
  (hq: ∀p∈(oZ B Lp Lr j0 rest cq H0 x H1 args s).2.2,p.1=p.2):dQ P f (dY B.E args) (dl B s) λy t=>y=(oZ B Lp Lr j0 rest cq H0 x H1 args s).1.er B.E/\t=dl B (oZ B Lp Lr j0 rest cq H0 x H1 args s).2.1:=by
 unfold oZ at hq |-
 simp only at hq |-
 cases hb:Ec B Lp (uq H1.heap Lr) H0 H1 s j0 rest (s.bT+(H1.bT-H0.bT))with
 |false=>
  rw[hb]at hq
  have:=hq (.any,.iE) (by simp)
  cases this
 |true=>
  rw[hb]at hq
  simp only[cS]at hq
  split at hq
  ·rename_i q h1
   obtain⟨⟨q1,a1,e1⟩,q2,h2,e2⟩:=fY h1 hq
   obtain⟨⟨q3,a2,e3⟩,q4,h3,e4⟩:=fY h2 e2
   obtain⟨⟨q5,a3,e5⟩,q6,h4,e6⟩:=fY h3 e4
   obtain⟨⟨q7,a4,e7⟩,q8,a5,e8⟩:=fY h4 e6
   exact Cg h (H6 wb hb a3 e5 a4 e7 a5 e8) (mL (λ_ _ _=>jR) a1 e1) (jR a2 e3)
  ·have:=hq (.any,.iE) (by simp)
   cases this
theorem Ed{f:FuncId}{cq args:List (TV B.S)}{H0 H1 s:dP B.S}{x:TV B.S}(h:dQ P f (dY B.E cq) (dl B H0) λy t=>y=x.er B.E/\t=dl B H1)
 (hq: ∀p∈(eU B cq H0 x H1 args s).2.2,p.1=p.2):dQ P f (dY B.E args) (dl B s) λy t=>y=(eU B cq H0 x H1 args s).1.er B.E/\t=dl B (eU B cq H0 x H1 args s).2.1:=Kb rfl h hq
def dJ(B:jc)(P:Program)(M:TM B.S):Option (FuncId×List (TV B.S)):=match M.o with
 |.ro l _=>(match l with
  |i::_=>match FJ B i.guard M.bI with
   |.go=>CP P i.op M.bI
   |_=>none
  | []=>none)
 |.rd l _ _=>(match l with
  |⟨.ir _ _,some i,sl⟩::_=>match FJ B i.guard M.bI with
   |.go=>CP P i.op (nB sl M.bI)
   |_=>none
  |_=>none)
 |_=>none
def SD{S:Nat->Type}(o:Option (FuncId×List (TV S))):Option FuncId:=o.map (·.1)
def nz{S:Nat->Type}(o:Option (FuncId×List (TV S))):List (TV S):=match o with
 |some (_,l)=>l
 |none=>[]
def jU(B:jc)(P:Program)(M:TM B.S)(s':dP B.S):iT:=match M.o with
 |.rd l n _=>(match l with
  |⟨.ir _ c,_,_⟩::_=>(match El B P false n s' c with
   |some q=>q
   |none=>[(.any,.iE)])
  |_=>[])
 |_=>[]
def rU(B:jc)(M:TM B.S)(v:TV B.S)(s':dP B.S):TM B.S:=match M.o with
 |.ro (i::l) y=>⟨.ro l y,M.k,je i.dst v M.bI,s'⟩
 |.rd (⟨_,some i,_⟩::l) n y=>⟨.rd l (wo B n) y,M.k,je i.dst v M.bI,s'⟩
 |_=>M
theorem BA{op:Op}{bI:dK B.S}{g:FuncId}{l:List (TV B.S)}{s:St}{K:AV->St->Prop}(h:CP P op bI=some (g,l))(hp:dQ P g (dY B.E l) s K):ows P op K (eJ B bI) s:=by
 unfold CP at h
 unfold ows
 split at h
 ·rename_i f a hc
  split at h
  ·rename_i g' fQ hf
   split at h
   ·rename_i l' hl
    cases he:enters P g' with
    |false=>simp[he]at h
    |true=>
     simp only[he,cS]at h
     cases h
     simp only[hc,ew,hf,gy,lb,hl,TV.er]
     rw[sS]at hp
     exact⟨he,hp⟩
   ·cases h
  ·cases h
 ·cases h
theorem Kc{ρ:Option Nat}{g:FuncId}{l:List (TV B.S)}{v:TV B.S}{s':dP B.S}(h:dJ B P M=some (g,l))(hp:dQ P g (dY B.E l) (dl B M.s) λy t=>y=v.er B.E/\t=dl B s')(hq: ∀p∈jU B P M s',p.1=p.2)
  (hk:kD B P N ρ Q (rU B M v s')):kD B P N ρ Q M:=by
 obtain⟨o,k,bI,s⟩:=M
 unfold dJ at h
 split at h
 ·rename_i l0 y ho
  simp only at ho;subst ho
  split at h
  ·rename_i i l1
   split at h
   ·rename_i hg
    show FE _ _ _ _
    refine yC (B:=B) ?_
    simp only at hg
    rw[hg]
    have hk:qt P (YK P N ρ Q k y) l1 (eJ B (je i.dst v bI)) (dl B s'):=hk
    rw[iB]at hk
    exact .inl (BA h (hp.mono λy t ⟨e1,e2⟩=>by subst e1;subst e2;exact hk))
   ·cases h
  ·cases h
 ·rename_i l0 n y ho
  simp only at ho;subst ho
  split at h
  ·rename_i j c i sl l1
   split at h
   ·rename_i hg
    intro hn
    show FH _ _ _ _
    refine ri (B:=B) ?_
    simp only at hg
    rw[hg]
    have hk:dq P (YK P N ρ Q k y) l1 (vt B (wo B n)) (eJ B (je i.dst v bI)) (dl B s'):=hk (rk hn)
    rw[iB,rm]at hk
    have hc:wU P (vt B n) (dl B s') c:=by
     unfold jU at hq
     simp only at hq
     split at hq
     ·rename_i q hc
      exact nf hn (λe=>by cases e) hc hq
     ·have:=hq (.any,.iE) (by simp);cases this
    have:=BA (K:=λv s'=>wU P (vt B n) s' c/\dq P (YK P N ρ Q k y) l1 (vt B n) (fF i.dst v (eJ B bI)) s') h (hp.mono λy t ⟨e1,e2⟩=>by subst e1;subst e2;exact⟨hc,hk⟩)
    rw[od]at this
    exact this
   ·cases h
  ·cases h
 ·cases h
theorem vu{a:α}{g:FuncId}{cq:List (TV B.S)}{H0:dP B.S}{X:α->TV B.S}{H1:α->dP B.S}(hf:cR B P g cq H0 X H1 a)
  (k:RT B P N ρ Q (rU B (G B P N M).1 (eU B cq H0 (X a) (H1 a) (nz (dJ B P (G B P N M).1)) (G B P N M).1.s).1 (eU B cq H0 (X a) (H1 a) (nz (dJ B P (G B P N M).1)) (G B P N M).1.s).2.1))
  (hx:(SD (dJ B P (G B P N M).1),(eU B cq H0 (X a) (H1 a) (nz (dJ B P (G B P N M).1)) (G B P N M).1.s).2.2.map Prod.fst,(jU B P (G B P N M).1 (eU B cq H0 (X a) (H1 a) (nz (dJ B P (G B P N M).1)) (G B P N M).1.s).2.1).map Prod.fst,(G B P N M).2.map Prod.fst)=
   (some g,(eU B cq H0 (X a) (H1 a) (nz (dJ B P (G B P N M).1)) (G B P N M).1.s).2.2.map Prod.snd,(jU B P (G B P N M).1 (eU B cq H0 (X a) (H1 a) (nz (dJ B P (G B P N M).1)) (G B P N M).1.s).2.1).map Prod.snd,(G B P N M).2.map Prod.snd)):RT B P N ρ Q M:=by
 simp only[Prod.mk.injEq]at hx
 obtain⟨h0,h1,h2,h3⟩:=hx
 refine rT h3 ⟨?_⟩
 have hk:=k.v
 generalize(G B P N M).1=m at *
 cases hc:dJ B P m with
 |none=>rw[hc]at h0;cases h0
 |some p=>
  obtain⟨g',l⟩:=p
  rw[hc]at h0 h1 h2 hk
  cases h0
  exact Kc hc (Ed hf (dZ h1)) (dZ h2) hk
theorem cD{o:Option α}{K:α->Option β}{g:FuncId}{cq:List (TV B.S)}{H0:dP B.S}{X:α->TV B.S}{H1:α->dP B.S}(h:o.bind K=some r)(hf: ∀a,o=some a->cR B P g cq H0 X H1 a)
  (k: ∀a,o=some a->K a=some r->RT B P N ρ Q (rU B (G B P N M).1 (eU B cq H0 (X a) (H1 a) (nz (dJ B P (G B P N M).1)) (G B P N M).1.s).1 (eU B cq H0 (X a) (H1 a) (nz (dJ B P (G B P N M).1)) (G B P N M).1.s).2.1))
  (hx: ∀a,(SD (dJ B P (G B P N M).1),(eU B cq H0 (X a) (H1 a) (nz (dJ B P (G B P N M).1)) (G B P N M).1.s).2.2.map Prod.fst,(jU B P (G B P N M).1 (eU B cq H0 (X a) (H1 a) (nz (dJ B P (G B P N M).1)) (G B P N M).1.s).2.1).map Prod.fst,(G B P N M).2.map Prod.fst)=
   (some g,(eU B cq H0 (X a) (H1 a) (nz (dJ B P (G B P N M).1)) (G B P N M).1.s).2.2.map Prod.snd,(jU B P (G B P N M).1 (eU B cq H0 (X a) (H1 a) (nz (dJ B P (G B P N M).1)) (G B P N M).1.s).2.1).map Prod.snd,(G B P N M).2.map Prod.snd):=by intro a;kernel_rfl):RT B P N ρ Q M:=
 let⟨a,ha,hK⟩:=mK h
 vu (hf a ha) (k a ha hK) (hx a)
theorem Na{uj:Type}{o:Option (α⊕uj)}{K:α->Option β}{K':uj->Option β}{g:FuncId}{cq:List (TV B.S)}{H0:dP B.S}{X:α->TV B.S}{X':uj->TV B.S}{H1:α->dP B.S}{mj:uj->dP B.S}(h:o.bind (Sum.elim K K')=some r)
  (hf: ∀a,o=some a->cR B P g cq H0 (Sum.elim X X') (Sum.elim H1 mj) a)
  (k: ∀a,o=some (.inl a)->K a=some r->RT B P N ρ Q (rU B (G B P N M).1 (eU B cq H0 (X a) (H1 a) (nz (dJ B P (G B P N M).1)) (G B P N M).1.s).1 (eU B cq H0 (X a) (H1 a) (nz (dJ B P (G B P N M).1)) (G B P N M).1.s).2.1))
  (k': ∀a,o=some (.inr a)->K' a=some r->RT B P N ρ Q (rU B (G B P N M).1 (eU B cq H0 (X' a) (mj a) (nz (dJ B P (G B P N M).1)) (G B P N M).1.s).1 (eU B cq H0 (X' a) (mj a) (nz (dJ B P (G B P N M).1)) (G B P N M).1.s).2.1))
  (hx: ∀a,(SD (dJ B P (G B P N M).1),(eU B cq H0 (X a) (H1 a) (nz (dJ B P (G B P N M).1)) (G B P N M).1.s).2.2.map Prod.fst,(jU B P (G B P N M).1 (eU B cq H0 (X a) (H1 a) (nz (dJ B P (G B P N M).1)) (G B P N M).1.s).2.1).map Prod.fst,(G B P N M).2.map Prod.fst)=
   (some g,(eU B cq H0 (X a) (H1 a) (nz (dJ B P (G B P N M).1)) (G B P N M).1.s).2.2.map Prod.snd,(jU B P (G B P N M).1 (eU B cq H0 (X a) (H1 a) (nz (dJ B P (G B P N M).1)) (G B P N M).1.s).2.1).map Prod.snd,(G B P N M).2.map Prod.snd):=by intro a;kernel_rfl)
  (pV: ∀a,(SD (dJ B P (G B P N M).1),(eU B cq H0 (X' a) (mj a) (nz (dJ B P (G B P N M).1)) (G B P N M).1.s).2.2.map Prod.fst,(jU B P (G B P N M).1 (eU B cq H0 (X' a) (mj a) (nz (dJ B P (G B P N M).1)) (G B P N M).1.s).2.1).map Prod.fst,(G B P N M).2.map Prod.fst)=
   (some g,(eU B cq H0 (X' a) (mj a) (nz (dJ B P (G B P N M).1)) (G B P N M).1.s).2.2.map Prod.snd,(jU B P (G B P N M).1 (eU B cq H0 (X' a) (mj a) (nz (dJ B P (G B P N M).1)) (G B P N M).1.s).2.1).map Prod.snd,(G B P N M).2.map Prod.snd):=by intro a;kernel_rfl):RT B P N ρ Q M:=by
 obtain⟨a,ha,hK⟩:=mK h
 cases a with
 |inl a=>
  have ul:cR B P g cq H0 X H1 a:=hf (.inl a) ha
  exact vu ul (k a ha hK) (hx a)
 |inr a=>
  have ul:cR B P g cq H0 X' mj a:=hf (.inr a) ha
  exact vu ul (k' a ha hK) (pV a)
end
end Go.Am
