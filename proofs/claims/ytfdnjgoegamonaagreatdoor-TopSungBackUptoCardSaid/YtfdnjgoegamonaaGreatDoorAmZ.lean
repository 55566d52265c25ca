/- The logic AM, Z: walks on typed states: blocks that become immutable; functions that reach into the state, and calls of them. -/
import Derived.Test.YtfdnjgoegamonaaGreatDoorAmY
set_option linter.all false
namespace Go.Am
open Go.RowKit
section
variable {S:Nat->Type}
def tt(f:TV S->TV S×jh):List (TV S)->List (TV S)×jh
 | []=>([],[])
 |x::r=>match f x with
  |(y,q)=>match tt f r with
   |(l,q2)=>(y::l,q++q2)
def DX(id:Nat)(l:TV S)(len:Nat)(p:Option (TV S)):Nat->TV S->TV S×jh
 |0,x=>(x,[])
 |n+1,x=>match x with
  |.a y=>(match y with
   |.ms i st k=>bif Nat.beq i id&&Nat.beq st 0 then(l,[(.mp 0 0 k,.mp 0 0 len)])else(x,[])
   |.mp i el off=>bif Nat.beq i id&&Nat.beq el 0&&Nat.beq off 0 then(match p with
    |some v=>(v,[])
    |none=>(x,[]))else(x,[])
   |_=>(x,[]))
  |.fn g cs=>(match tt (DX id l len p n) cs with
   |(cs,q)=>(.fn g cs,q))
  |.agg cs=>(match tt (DX id l len p n) cs with
   |(cs,q)=>(.agg cs,q))
  |.eC cs=>(match tt (DX id l len p n) cs with
   |(cs,q)=>(.eC cs,q))
  |x=>(x,[])
def wQ(f:TV S->TV S×jh):dU S->dU S×jh
 | []=>([],[])
 |(t,x)::r=>match f x with
  |(y,q)=>match wQ f r with
   |(l,q2)=>((t,y)::l,q++q2)
def lj(id:Nat)(f:TV S->TV S×jh):List (Nat×TB S)->List (Nat×TB S)×jh
 | []=>([],[])
 |(i,b)::r=>match lj id f r with
  |(h,q2)=>bif Nat.beq i id then(h,q2)else match b with
   |.cW n l=>(match tt f l with
    |(l,q)=>((i,.cW n l)::h,q++q2))
   |.rows n c x v m=>(match tt f v with
    |(v,q)=>((i,.rows n c x v m)::h,q++q2))
   |.fm n c w cl pre v post=>(match tt f v with
    |(v,q)=>((i,.fm n c w cl pre v post)::h,q++q2))
   |b=>((i,b)::h,q2)
def TY(b:Option (TB S)):Option (TV S×Nat×Option (TV S)):=match b with
 |some (.ls _ c xs m _)=>some (.l false c xs,m,none)
 |some (.cW _ l)=>some (.s false l,l.length,match l with
  | [e]=>bif e.P6 then none else some (.ip (CM e))
  |_=>none)
 |_=>none
def Lu(id:Nat)(M:TM S):TM S×jh:=match TY (bJ M.s.heap id)with
 |some (l,len,p)=>match wQ (DX id l len p 4) M.bX with
  |(bX,q)=>match lj id (DX id l len p 4) M.s.heap with
   |(h,q2)=>(⟨M.o,M.k,bX,⟨h,M.s.cr⟩⟩,q++q2)
 |none=>(M,[(.any,.iO)])
end
section
variable {B:jg} {id len:Nat} {l:TV B.S} {elems:List AV}
theorem nO{f:TV B.S->TV B.S×jh}(hf: ∀x,(∀p∈(f x).2,p.1=p.2)->Fz id elems ((f x).1.er B.E) (x.er B.E)): ∀{cs:List (TV B.S)},(∀p∈(tt f cs).2,p.1=p.2)->AL id elems (eB B.E (tt f cs).1) (eB B.E cs)
 | [],_=>.z
 |x::r,h=>.k (hf x λp hp=>h p (DQ _ hp)) (nO hf λp hp=>h p (Ga _ hp))
theorem zr{p:Option (TV B.S)}(hp: ∀v,p=some v-> ∃e cs,elems=[e]/\e.cells=cs/\v.er B.E=.ip cs)(hl:l.er B.E=.sl false elems)(hn:len=elems.length): ∀{n:Nat}{x:TV B.S},(∀q∈(DX id l len p n x).2,q.1=q.2)->Fz id elems ((DX id l len p n x).1.er B.E) (x.er B.E)
 |0,x,_=>.r _
 |n+1,x,h=>by
  unfold DX at h |-
  split
  ·rename_i y;split
   ·rename_i i st k;have h: ∀p∈(bif Nat.beq i id&&Nat.beq st 0 then(l,[(AV.mp 0 0 k,AV.mp 0 0 len)])else(TV.a (AV.ms i st k),[])).2,p.1=p.2:=h;cases hc:(Nat.beq i id&&Nat.beq st 0)with
    |false=>exact .r _
    |true=>
     rw[hc]at h;simp only[fE]at hc;have e1:=jn hc.1;have e2:=jn hc.2;subst e1;subst e2;have:=h (.mp 0 0 k,.mp 0 0 len) (by simp);simp only[AV.mp.injEq]at this;have hk:=this.2.2;simp only[dt];rw[hl];have hk:k=elems.length:=by rw[<-hn];exact hk
     show Fz i elems (.sl false elems) (.ms i 0 k);exact .m (by omega) (by rw[VZ,hk];exact tP (eD _))
   ·rename_i i el off;cases hc:(Nat.beq i id&&Nat.beq el 0&&Nat.beq off 0)with
    |false=>exact .r _
    |true=>
     simp only[fE]at hc;have e1:=jn hc.1.1;have e2:=jn hc.1.2;have e3:=jn hc.2;subst e1;subst e2;subst e3;cases p with
     |none=>exact .r _
     |some v=>
      obtain⟨e,cs,h1,h2,h3⟩:=hp v rfl;show Fz i elems (v.er B.E) (.mp i 0 0);rw[h3];exact .o h1 h2
   ·exact .r _
  ·exact .f (nO (λx=>zr hp hl hn) h)
  ·exact .a (nO (λx=>zr hp hl hn) h)
  ·exact .t (nO (λx=>zr hp hl hn) h)
  ·exact .r _
theorem zu{f:TV B.S->TV B.S×jh}(hf: ∀x,(∀p∈(f x).2,p.1=p.2)->Fz id elems ((f x).1.er B.E) (x.er B.E)): ∀{bX:dU B.S},(∀p∈(wQ f bX).2,p.1=p.2)-> ∀t x,bJ (eY B (wQ f bX).1) t=some x-> ∃y,bJ (eY B bX) t=some y/\Fz id elems x y
 | [],_,t,x,hx=>by simp[wQ,eY,di]at hx
 |(k,v)::r,h,t,x,hx=>by
  simp only[wQ,eY,cZ]at hx |-
  split at hx
  ·rename_i e;subst e;cases hx;exact⟨_,by simp,hf v λp hp=>h p (DQ _ hp)⟩
  ·rename_i e;rw[dY e];exact zu hf (λp hp=>h p (Ga _ hp)) t x hx
theorem xU{f:TV B.S->TV B.S×jh}(hf: ∀x,(∀p∈(f x).2,p.1=p.2)->Fz id elems ((f x).1.er B.E) (x.er B.E)): ∀{h:List (Nat×TB B.S)},(∀p∈(lj id f h).2,p.1=p.2)-> ∀i b,bJ (kP B (lj id f h).1) i=some b->i≠id/\ ∃b',bJ (kP B h) i=some b'/\RC id elems b b'
 | [],_,i,b,hx=>by simp[lj,kP,di]at hx
 |(k,v)::r,h,i,b,hx=>by
  simp only[lj]at h hx;cases hk:Nat.beq k id with
  |true=>
   rw[hk]at h hx;have e:=jn hk;obtain⟨h1,b',h2,h3⟩:=xU hf h i b hx;refine⟨h1,b',?_,h3⟩;simp only[kP,cZ];rw[dY (λe2=>h1 (by omega))];exact h2
  |false=>
   rw[hk]at h hx;simp only[dD]at h hx;have eU:k≠id:=λe=>by rw[e,O0]at hk;cases hk
   have rest: ∀{q:jh},(∀p∈(lj id f r).2,p.1=p.2)->bJ (kP B (lj id f r).1) i=some b->k≠i->i≠id/\ ∃b',bJ (kP B ((k,v)::r)) i=some b'/\RC id elems b b':=λ{_}hq hx e=>by
    obtain⟨h1,b',h2,h3⟩:=xU hf hq i b hx;refine⟨h1,b',?_,h3⟩;simp only[kP,cZ];rw[dY e];exact h2
   split at hx
   ·rename_i n l0;simp only at h hx;have RQ: ∀p∈(tt f l0).2,p.1=p.2:=λp hp=>h p (DQ _ hp);have Kw: ∀p∈(lj id f r).2,p.1=p.2:=λp hp=>h p (Ga _ hp);simp only[kP,cZ]at hx;split at hx
    ·rename_i e;subst e;cases hx;exact⟨eU,.cells n (eB B.E l0),by simp[kP,cZ,fS],.cells (nO hf RQ)⟩
    ·rename_i e;exact rest (q:=[]) Kw hx e
   ·rename_i n c x0 v0 m;simp only at h hx;have RQ: ∀p∈(tt f v0).2,p.1=p.2:=λp hp=>h p (DQ _ hp);have Kw: ∀p∈(lj id f r).2,p.1=p.2:=λp hp=>h p (Ga _ hp);simp only[kP,cZ]at hx;split at hx
    ·rename_i e;subst e;cases hx;exact⟨eU,_,by simp[kP,cZ,fS],.cells (.p (.r _) (.p (nO hf RQ) (.r _)))⟩
    ·rename_i e;exact rest (q:=[]) Kw hx e
   ·rename_i n c w cl pre v0 post;simp only at h hx;have RQ: ∀p∈(tt f v0).2,p.1=p.2:=λp hp=>h p (DQ _ hp);have Kw: ∀p∈(lj id f r).2,p.1=p.2:=λp hp=>h p (Ga _ hp);have hl:=(nO hf RQ).length;rw[im,im]at hl;simp only[kP,cZ]at hx;split at hx
    ·rename_i e;subst e;cases hx;refine⟨eU,fS B (.fm n c w cl pre v0 post),by simp[kP,cZ],?_⟩;simp only[fS,hl];exact .cells (.p (.r _) (.p (nO hf RQ) (.r _)))
    ·rename_i e;exact rest (q:=[]) Kw hx e
   ·rename_i hv Ka hv3;have Kw: ∀p∈(lj id f r).2,p.1=p.2:=by
     cases v with
     |cW n l0=>exact absurd rfl (hv n l0)
     |ls n c x _ _=>exact h
     |raw b=>exact h
     |lp c bX st pd=>exact h
     |rows n c x v m=>exact absurd rfl (Ka n c x v m)
     |fm n c w cl pre v post=>exact absurd rfl (hv3 n c w cl pre v post)
     |fr c cl pre n post=>exact h
    simp only[kP,cZ]at hx;split at hx
    ·rename_i e;subst e;cases hx;exact⟨eU,_,by simp[kP,cZ],.r _⟩
    ·rename_i e;exact rest (q:=[]) Kw hx e
theorem I6{s:dZ B.S}{id len:Nat}{l:TV B.S}{p:Option (TV B.S)}(h:TY (bJ s.heap id)=some (l,len,p)): ∃cN elems,bJ (dA B s).heap id=some (.cells cN elems)/\l.er B.E=.sl false elems/\len=elems.length/\ ∀v,p=some v-> ∃e cs,elems=[e]/\e.cells=cs/\v.er B.E=.ip cs:=by
 unfold TY at h;split at h
 ·rename_i n c xs m hm hg;cases h;exact⟨n,_,by simp only[dE hg,fS],rfl,by simp[hm],λv hv=>by cases hv⟩
 ·rename_i n l hg;cases h;exact⟨n,_,by simp only[dE hg,fS],rfl,by simp[im],λv hv=>by
   split at hv
   ·rename_i e;cases hi:e.P6 with
    |true=>rw[hi]at hv;cases hv
    |false=>
     rw[hi]at hv;cases hv;exact⟨e.er B.E,_,rfl,rfl,by simp only[TV.er,BF hi]⟩
   ·cases hv⟩
 ·cases h
variable {P:Program} {N:Nat} {ρ:Option Nat} {Q:Exit->Env->St->Prop} {M:TM B.S}
def aaC{S:Nat->Type}(id:Nat)(M:TM S):Bool:=bif Nat.blt id 1000000 then aay id M else RI (Nat.beq ((id-1000000)%2) 1) ((id-1000000) / 2) M
def toReg(B:jg)(P:Program)(N:Nat)(fN:Nat)(M:TM B.S):TM B.S×jh:=Tw B P N (aaC fN) FT M
theorem Da{f:TV B.S->TV B.S×jh}: ∀{h:List (Nat×TB B.S)},iJ h id=true->mN B (lj id f h).1=mN B h
 | [],_=>rfl
 |(k,v)::r,hd=>by
  have key: ∀{v':TB B.S},eX B k v'=eX B k v->iJ r id=true->(∀x,(lj id f ((k,v)::r)).1=(bif Nat.beq k id then(lj id f r).1 else x)->x=(k,v')::(lj id f r).1->gm v=false\/Nat.beq k id=false->mN B (lj id f ((k,v)::r)).1=mN B ((k,v)::r)):=λ{v'}e1 hr x ex ex2 hc=>by
   rw[ex];cases hk:Nat.beq k id with
   |true=>
    have hf:gm v=false:=by
     rcases hc with h|h
     ·exact h
     ·rw[hk]at h;cases h
    simp only[dt,mN,Da hr,rO hf,sA]
   |false=>simp only[dD,ex2,mN,Da hr,e1]
  cases v with
  |fr c cl pre n post=>
   simp only[iJ,fE,qn]at hd;exact key (v':=.fr c cl pre n post) rfl hd.2 _ (by simp only[lj];cases Nat.beq k id<;>rfl) rfl (.inr hd.1.2)
  |cW n l=>exact key (v':=.cW n (tt f l).1) rfl hd _ (by simp only[lj];cases Nat.beq k id<;>rfl) rfl (.inl rfl)
  |rows n c x v m=>exact key (v':=.rows n c x (tt f v).1 m) rfl hd _ (by simp only[lj];cases Nat.beq k id<;>rfl) rfl (.inl rfl)
  |fm n c w cl pre v post=>exact key (v':=.fm n c w cl pre (tt f v).1 post) rfl hd _ (by simp only[lj];cases Nat.beq k id<;>rfl) rfl (.inl rfl)
  |ls n c x m hm=>exact key (v':=.ls n c x m hm) rfl hd _ (by simp only[lj];cases Nat.beq k id<;>rfl) rfl (.inl rfl)
  |raw b=>exact key (v':=.raw b) rfl hd _ (by simp only[lj];cases Nat.beq k id<;>rfl) rfl (.inl rfl)
  |lp c e st pd=>exact key (v':=.lp c e st pd) rfl hd _ (by simp only[lj];cases Nat.beq k id<;>rfl) rfl (.inl rfl)
def KB(B:jg)(id:Nat)(s:dZ B.S):Bool:=KA B s.heap&&pz s.heap&&iJ s.heap id
theorem zw{w i:Nat}{b:TB B.S}: ∀{h:List (Nat×TB B.S)},iJ h i=true->bJ h w=some b->gm b=true->gb w i=true
 | [],_,hg,_=>by simp[di]at hg
 |(k,x)::r,hd,hg,hf=>by
  simp only[cZ]at hg;split at hg
  ·rename_i e;cases hg;subst e;obtain⟨c,cl,pre,n,post,rfl⟩:=lZ hf;simp only[iJ,fE]at hd;exact hd.1.1
  ·refine zw (h:=r) ?_ hg hf;cases x with
   |fr c cl pre n post=>simp only[iJ,fE]at hd;exact hd.2
   |_=>exact hd
theorem TZ{id:Nat}{M:TM B.S}(ho:zd M.o=true)(hd:KB B id M.s=true)(hq: ∀p∈(Lu id M).2,p.1=p.2)(h:kR B P N ρ Q (Lu id M).1):kR B P N ρ Q M:=by
 obtain⟨o,k,bX,s⟩:=M;cases o<;>simp only[zd]at ho<;>first|(cases ho;done)|skip
 rename_i c;simp only[KB,fE]at hd;obtain⟨⟨hd,hw⟩,Nv⟩:=hd;unfold Lu at hq h;split at hq
 ·rename_i l len p hf;rw[hf]at h;obtain⟨cN,elems,hg,hl,hn,hp⟩:=I6 hf;have W9: ∀x:TV B.S,(∀q∈(DX id l len p 4 x).2,q.1=q.2)->Fz id elems ((DX id l len p 4 x).1.er B.E) (x.er B.E):=λx=>zr hp hl hn;have h:mu P N ρ c (QK P N ρ Q k) (eY B (wQ (DX id l len p 4) bX).1) (dA B ⟨(lj id (DX id l len p 4) s.heap).1,s.cr⟩):=h;have h1:=zu W9 (bX:=bX) λp hp=>hq p (DQ _ hp);have h2:=xU (id:=id) W9 (h:=s.heap) λp hp=>hq p (Ga _ hp);refine Th (S2:=dA B ⟨(lj id (DX id l len p 4) s.heap).1,s.cr⟩) hg h1 ?_ rfl (λi e=>absurd e (oQ (xT (n:=s.cr) hd) i)) h;intro i b hb;simp only[dA,Da Nv]at hb;rw[dp]at hb;split at hb
  ·rename_i x hx;cases hb;obtain⟨g1,b',g2,g3⟩:=h2 i _ hx;exact⟨g1,b',by simp only[dA];rw[dp,g2],g3⟩
  ·obtain⟨w,b',g1,g2⟩:=zh hw hb;refine⟨λe=>?_,b,jm hw g1 g2,.r _⟩;subst e;obtain⟨f1,f2⟩:=fh g2;rw[zw Nv g1 f1]at f2;cases f2
 ·have:=hq (.any,.iO) (by simp);cases this
theorem tZ(fN id:Nat)(k:RT B P N ρ Q (Lu id (toReg B P N fN M).1).1)
  (hx:(zd (toReg B P N fN M).1.o,KB B id (toReg B P N fN M).1.s,(toReg B P N fN M).2.map Prod.fst,(Lu id (toReg B P N fN M).1).2.map Prod.fst)=(true,true,(toReg B P N fN M).2.map Prod.snd,(Lu id (toReg B P N fN M).1).2.map Prod.snd):=by kernel_rfl):RT B P N ρ Q M:=by
 simp only[Prod.mk.injEq]at hx;obtain⟨h1,h2,h3,h4⟩:=hx;exact⟨kr (eo h3) (TZ h1 h2 (eo h4) k.v)⟩
end
theorem vK{α:Type}{b:α}: ∀{h:List (Nat×α)}{i:Nat},bJ h i=some b->eF h i b=h
 | [],i,e=>by simp[di]at e
 |(k,x)::r,i,e=>by
  simp only[cZ]at e;unfold eF;rw[LA];split at e
  ·rename_i hk;subst hk;cases e;simp
  ·rename_i hk;rw[dY hk,vK e]
theorem zx{B:jg}{i:Nat}{b b0:TB B.S}: ∀{h:List (Nat×TB B.S)},bJ h i=some b0->eX B i b0=eX B i b->mN B (eF h i b)=mN B h
 | [],hg,_=>by simp[di]at hg
 |(k,z)::r,hg,e=>by
  simp only[cZ]at hg;simp only[ub];split
  ·rename_i hk;rw[dP hk]at hg;cases hg;subst hk;simp only[mN,e]
  ·rename_i hk;rw[dY hk]at hg;simp only[mN,zx hg e]
def Qu(B:jg)(id:Nat)(b:TB B.S)(M:TM B.S):TM B.S:=⟨M.o,M.k,M.bX,⟨eF M.s.heap id b,M.s.cr⟩⟩
theorem tB{B:jg}{P:Program}{N:Nat}{ρ:Option Nat}{Q:Exit->Env->St->Prop}{M:TM B.S}(fN id:Nat)(b b':TB B.S)(he:fS B b=fS B b')(k:RT B P N ρ Q (Qu B id b' (toReg B P N fN M).1))(hr:eX B id b=eX B id b':=by rfl)
  (hx:(ke (toReg B P N fN M).1.o,bJ (toReg B P N fN M).1.s.heap id,(toReg B P N fN M).2.map Prod.fst)=(true,some b,(toReg B P N fN M).2.map Prod.snd):=by kernel_rfl):RT B P N ρ Q M:=by
 simp only[Prod.mk.injEq]at hx;obtain⟨h1,h2,h3⟩:=hx;refine⟨kr (eo h3) ?_⟩;have k:=k.v;unfold Qu at k;revert h1 h2 k;show _->_->_->kR B P N ρ Q (toReg B P N fN M).1;generalize(toReg B P N fN M).1=g;intro h1 h2 k;obtain⟨o,kk,bX,s⟩:=g;have e:dA B ⟨eF s.heap id b',s.cr⟩=dA B s:=by
  simp only[dA,CS,<-he,zx h2 hr];rw[vK (by rw[gi,h2];rfl)]
 cases o<;>simp only[ke]at h1<;>first|(cases h1;done)|skip
 ·have k:xp P N ρ Q ⟨.run _,kk,eY B bX,dA B ⟨eF s.heap id b',s.cr⟩⟩:=k;rw[e]at k;exact k
 ·have k:xp P N ρ Q ⟨.out _,kk,eY B bX,dA B ⟨eF s.heap id b',s.cr⟩⟩:=k;rw[e]at k;exact k
def Xa(B:jg)(t:Nat)(v:TV B.S)(M:TM B.S):TM B.S:=⟨M.o,M.k,eF M.bX t v,M.s⟩
theorem tE{B:jg}{P:Program}{N:Nat}{ρ:Option Nat}{Q:Exit->Env->St->Prop}{M:TM B.S}(fN t:Nat)(v v':TV B.S)(he:v.er B.E=v'.er B.E)(k:RT B P N ρ Q (Xa B t v' (toReg B P N fN M).1))
  (hx:(ke (toReg B P N fN M).1.o,bJ (toReg B P N fN M).1.bX t,(toReg B P N fN M).2.map Prod.fst)=(true,some v,(toReg B P N fN M).2.map Prod.snd):=by kernel_rfl):RT B P N ρ Q M:=by
 simp only[Prod.mk.injEq]at hx;obtain⟨h1,h2,h3⟩:=hx;refine⟨kr (eo h3) ?_⟩;have k:=k.v;unfold Xa at k;revert h1 h2 k;show _->_->_->kR B P N ρ Q (toReg B P N fN M).1;generalize(toReg B P N fN M).1=g;intro h1 h2 k;obtain⟨o,kk,bX,s⟩:=g;have e:eY B (eF bX t v')=eY B bX:=by
  rw[xO,<-he];exact vK (by rw[lP,h2];rfl)
 exact kR.bX (M:=⟨o,kk,bX,s⟩) e k
section
variable {B:jg} {m c n:Nat} {x:List (B.S c)}
end
theorem oh{B:jg}{P:Program}{N:Nat}{ρ:Option Nat}{Q:Exit->Env->St->Prop}{M:TM B.S}{β:Type}{r:β}{p:Prop}[Decidable p]{x:Option β}(h:cB p x=some r)(k:p->x=some r->RT B P N ρ Q M):RT B P N ρ Q M:=k (wM h).1 (wM h).2
theorem RR{B:jg}{P:Program}{N:Nat}{ρ:Option Nat}{Q:Exit->Env->St->Prop}{M:TM B.S}{α β:Type}{r:β}{o:Option α}{K:α->Option β}(h:o.bind K=some r)(k: ∀a,o=some a->K a=some r->RT B P N ρ Q M):RT B P N ρ Q M:=
 let⟨a,ha,hK⟩:=mG h
 k a ha hK
section
variable {B:jg} {P:Program} {N:Nat} {ρ:Option Nat} {Q:Exit->Env->St->Prop} {M:TM B.S}
def BO(M:TM B.S)(dx ids:List Nat)(cr:Nat)(U:dU B.S×List (Nat×TB B.S)):TM B.S:=⟨M.o,M.k,U.1++l6 dx M.bX,⟨U.2++ly ids M.s.heap,cr⟩⟩
theorem tV(fN:Nat)(dx ids:List Nat)(cr:Nat)(U:dU B.S×List (Nat×TB B.S))(k:RT B P N ρ Q (BO (toReg B P N fN M).1 dx ids cr U))
  (hx:(ke (toReg B P N fN M).1.o,(toReg B P N fN M).2.map Prod.fst,(Bd B ρ (toReg B P N fN M).1.s.cr (BO (toReg B P N fN M).1 dx ids cr U).bX (BO (toReg B P N fN M).1 dx ids cr U).s (toReg B P N fN M).1).map Prod.fst)=
   (true,(toReg B P N fN M).2.map Prod.snd,(Bd B ρ (toReg B P N fN M).1.s.cr (BO (toReg B P N fN M).1 dx ids cr U).bX (BO (toReg B P N fN M).1 dx ids cr U).s (toReg B P N fN M).1).map Prod.snd):=by kernel_rfl):RT B P N ρ Q M:=by
 simp only[Prod.mk.injEq]at hx;obtain⟨h1,h2,h3⟩:=hx;refine⟨kr (eo h2) ?_⟩;obtain⟨GQ,L,hI⟩:=xR (eo h3);have k:=k.v;unfold BO at k hI;show kR B P N ρ Q (toReg B P N fN M).1;generalize(toReg B P N fN M).1=g at *;obtain⟨o,kk,bX,s⟩:=g;have ho:ke o=true:=h1;exact I2 ho GQ (eD _) hI k
end
section
variable {P:Program}
theorem BP{G:cx}{s0:St}{w w':World}{e:Ending}{K:AV->St->Prop}(hs:eQ G s0 w)
  (h:xe G s0 w (λy s=> ∃s1 y1 cn π S2 x2,s0.cr<=cn/\sD s y s1 y1/\qK cn π S2 s1/\Co (gR cn S2.heap) π x2 y1/\K x2 S2) e w'):xe G s0 w K e w':=by
 obtain⟨v,G',y,s',rfl,hV,hS,hE,s1,y1,cn,π,S2,x2,hb,ht,hi,hc,hk⟩:=h;obtain⟨G1,h1,h2,h3⟩:=ht G' w' v hS hV;have hE1:=hE.trans hs h2;exact⟨v,_,x2,S2,rfl,hc.V BB h3,hi.toIntoM.jd h1,hi.ext hs hE1 h1 hb,hk⟩
theorem ET{f:FuncId}{args:List AV}{s0:St}{K:AV->St->Prop}
  (h:dQ P f args s0 λy s=> ∃s1 y1 cn π S2 x2,s0.cr<=cn/\sD s y s1 y1/\qK cn π S2 s1/\Co (gR cn S2.heap) π x2 y1/\K x2 S2):dQ P f args s0 K:=λG w vs hs hv=>
 (h G w vs hs hv).mono λ_ _ hg=>BP hs hg
theorem EU{id:Nat}{args:List AV}{s0:St}{K:AV->St->Prop}
  (h:jk P id args s0 λy s=> ∃s1 y1 cn π S2 x2,s0.cr<=cn/\sD s y s1 y1/\qK cn π S2 s1/\Co (gR cn S2.heap) π x2 y1/\K x2 S2):jk P id args s0 K:=λo G w r vs hs ho hv=>by
 obtain⟨fn,tmps,assign,body,h1,h2⟩:=h o G w r vs hs ho hv;exact⟨fn,tmps,assign,body,h1,h2.mono λ_ _ hg=>BP hs hg⟩
end
section
variable {B:jg} {P:Program} {N:Nat} {ρ:Option Nat} {Q:Exit->Env->St->Prop} {M:TM B.S} {α β:Type} {r:β}
def dv(B:jg)(P:Program)(f:FuncId)(args:List (TV B.S))(H0:dZ B.S)(X:α->TV B.S)(H1:α->dZ B.S)(a:α):Prop:=
 dQ P f (eB B.E args) (dA B H0) λy t=>y=(X a).er B.E/\t=dA B (H1 a)
def KH(B:jg)(cn:Nat)(X:α->TV B.S)(H1:α->dZ B.S)(a:α):AV->St->Prop:=λy s=> ∃s1 y1 zy π,cn<=zy/\sD s y s1 y1/\qK zy π (dA B (H1 a)) s1/\Co (gR zy (dA B (H1 a)).heap) π ((X a).er B.E) y1
theorem jB{f:FuncId}{args:List (TV B.S)}{H0:dZ B.S}{X:α->TV B.S}{H1:α->dZ B.S}{a:α}(h:RT B P (nF P f) none (J8 P (rF P f).toArray (KH B H0.cr X H1 a)) ⟨.run (cF P f),[],Ky args 0,H0⟩)
  (hx:((EM P f).isSome&&Nat.ble args.length (nF P f)&&KA B H0.heap)=true:=by kernel_rfl):dv B P f args H0 X H1 a:=by
 simp only[fE]at hx;obtain⟨⟨h1,h2⟩,h3⟩:=hx;have h:=h.v;obtain⟨⟨n,rs,c⟩,hb⟩:=Bp.1 h1;have e1:nF P f=n:=by simp[nF,hb]
 have e2:rF P f=rs:=by simp[rF,hb]
 have e3:cF P f=c:=by simp[cF,hb]
 rw[e1,e2,e3]at h;rw[e1]at h2;refine ET ?_;refine(RE (s:=dA B H0) n rs c _ hb I4.symm (by rw[im];exact h2) (xT h3) h).mono ?_;rintro y s ⟨s1,y1,zy,π,k1,k2,k3,k4⟩;exact⟨s1,y1,zy,π,_,_,k1,k2,k3,k4,rfl,rfl⟩
def T0(B:jg)(P:Program)(fz:Bool)(cn:Nat)(rs:List ResultVar)(x:TV B.S)(S2:dZ B.S)(M:TM B.S):Option jh:=match M.o with
 |.out e=>(match M.k with
  | []=>bif (match e with|.ret=>true|.normal=>true|_=>false)&&BN B M.s then(match Nt B P M.bX M.s rs with
   |some l=>(match(bif fz then EN (match l with| [x]=>x|l=>.eC l) (EP M.s)else((match l with| [x]=>x|l=>.eC l),EP M.s,[]))with
    |(y,s1,q)=>bif !fz||y.cl then(match Nk B cn (Nq cn [(0,x)] S2 [(0,y)] s1) [(0,x)] S2 [(0,y)] s1 with
     |some q2=>some (q++q2)
     |none=>none)else none)
   |none=>none)else none
  |_=>none)
 |_=>none
def wR(o:Option jh):jh:=match o with
 |some q=>q
 |none=>[(.any,.iO)]
theorem zA{o:Option jh}(h: ∀p∈wR o,p.1=p.2): ∃q,o=some q/\ ∀p∈q,p.1=p.2:=by
 cases o with
 |none=>have:=h (.any,.iO) (by simp[wR]);cases this
 |some q=>exact⟨q,rfl,h⟩
theorem db{rs:List ResultVar}{cn:Nat}{X:α->TV B.S}{H1:α->dZ B.S}{x a:α}(fz:Bool)(h:some x=some a)(hx:((wR (T0 B P fz cn rs (X x) (H1 x) (G B P N M).1)).map Prod.fst,(G B P N M).2.map Prod.fst)=
   ((wR (T0 B P fz cn rs (X x) (H1 x) (G B P N M).1)).map Prod.snd,(G B P N M).2.map Prod.snd):=by kernel_rfl):RT B P N none (J8 P rs.toArray (KH B cn X H1 a)) M:=by
 cases h;simp only[Prod.mk.injEq]at hx;obtain⟨h2,h3⟩:=hx;refine qT h3 ⟨?_⟩;obtain⟨q,hr,hq⟩:=zA (eo h2);generalize(G B P N M).1=g at *;obtain⟨o,k,bX,s⟩:=g;unfold T0 at hr;split at hr
 ·rename_i e ho;simp only at ho;subst ho;split at hr
  ·rename_i hk;simp only at hk;subst hk;generalize hq0:(match e with|.ret=>true|.normal=>true|_=>false)=b0 at hr;cases hb:(b0&&BN B s)with
   |false=>simp only[hb,dD]at hr;cases hr
   |true=>
    simp only[hb,dt]at hr;simp only[fE]at hb;have he:e=.ret\/e=.normal:=by
     rw[hb.1]at hq0;cases e<;>simp_all
    split at hr
    ·rename_i l hl;have hl:=C7 hl;generalize hy:(match l with| [x]=>x|l=>TV.eC l)=y0 at hr;have Hr:lU P rs.toArray (eY B bX) (dA B s)=some (y0.er B.E):=by
      unfold lU;simp only[hl];subst hy;cases l with
      |nil=>rfl
      |cons x r=>cases r<;>rfl
     generalize hz:(bif fz then EN y0 (EP s)else(y0,EP s,[]))=z at hr;obtain⟨y,s1,q1⟩:=z;simp only at hr;cases hc:(!fz||y.cl)with
     |false=>simp only[hc,dD]at hr;cases hr
     |true=>
      simp only[hc,dt]at hr;split at hr
      ·rename_i q2 h2;cases hr;have hI:=C5 h2 (λp hp=>hq p (Ga _ hp));obtain⟨z,IV,DV⟩:=hI.bX 0 (((X x).er B.E)) (by simp[eY,cZ]);have IV:z=y.er B.E:=by simp[eY,cZ]at IV;exact IV.symm
       subst IV;have ht:sD (dA B (EP s)) (y0.er B.E) (dA B s1) (y.er B.E):=by
        cases fz with
        |false=>
         simp only[dD,Prod.mk.injEq]at hz;obtain⟨e1,e2,_⟩:=hz;subst e1;subst e2;exact sD.refl _ _
        |true=>
         simp only[dt]at hz;simp only[qc,Ii]at hc;have hf:=I5 (B:=B) y0 (EP s) (by rw[hz];exact hc) (by rw[hz];exactλp hp=>hq p (DQ _ hp));rw[hz]at hf;have:=El (dA B (EP s)) (y0.er B.E);rw[hf]at this;exact this
       have ES:GI (dA B (EP s)) (dA B s):=ER hb.2;have hK:KH B cn X H1 x (y0.er B.E) (dA B (EP s)):=⟨_,_,cn,_,eD _,ht,hI.st,DV⟩;rcases he with rfl|rfl
       ·exactλG w a hn=>hn.after ⟨_,_,Hr,ES,hK⟩
       ·exactλG w a hn=>hn.after ⟨_,_,Hr,ES,hK⟩
      ·cases hr
    ·cases hr
  ·cases hr
 ·cases hr
section
variable {S:Nat->Type}
def KC(f:TV S->TV S):List (TV S)->List (TV S)
 | []=>[]
 |x::r=>f x::KC f r
def EV(L:List (Nat×Nat)):Nat->TV S->TV S
 |0,x=>x
 |n+1,x=>match x with
  |.a y=>(match y with
   |.mp i e o=>.a (.mp (pi L i) e o)
   |.ms i a b=>.a (.ms (pi L i) a b)
   |.lf i=>.a (.lf (pi L i))
   |_=>x)
  |.pt i a b=>.pt (pi L i) a b
  |.fn g cs=>.fn g (KC (EV L n) cs)
  |.agg cs=>.agg (KC (EV L n) cs)
  |.eC cs=>.eC (KC (EV L n) cs)
  |x=>x
def RU(f:TV S->TV S):List (Nat×TV S)->List (Nat×TV S)
 | []=>[]
 |(i,x)::r=>(i,f x)::RU f r
def aaD(L:List (Nat×Nat))(b:TB S):TB S:=match b with
 |.cW n l=>.cW n (KC (EV L 4) l)
 |.lp c bX st pd=>.lp c (RU (EV L 4) bX) st pd
 |.fm n c w cl pre lh post=>.fm n c (pi L w) cl pre (KC (EV L 4) lh) post
 |b=>b
def Xb(L:List (Nat×Nat)):List (Nat×TB S)->List (Nat×TB S)
 | []=>[]
 |(i,b)::r=>(pi L i,aaD L b)::Xb L r
def zB(L:List (Nat×Nat)):List (Nat×TB S)->List (Nat×TB S)
 | []=>[]
 |p::r=>bif (bJ L p.1).isSome then p::zB L r else zB L r
def prA(cD args:List (TV S))(H0 s:dZ S):List (Nat×Nat):=
 match Ph (Pj s.cr 4) cD args with
 |l0=>match l0++RN s.cr false l0 s.heap (zB l0 H0.heap)with
  |l1=>match l1++RN s.cr false l1 s.heap (zB l1 H0.heap)with
   |l2=>match l2++RN s.cr false l2 s.heap (zB l2 H0.heap)with
    |l3=>match l3++RN s.cr false l3 s.heap (zB l3 H0.heap)with
     |l4=>l4++RN s.cr true l4 s.heap (zB l4 H0.heap)
def T1(c0 cr:Nat)(L:List (Nat×Nat)):List (Nat×TB S)->List (Nat×Nat)
 | []=>[]
 |(i,_)::r=>bif (bJ L i).isSome then T1 c0 cr L r else(i,cr+(i-c0))::T1 c0 cr L r
def uG(h:List (Nat×TB S))(L:List (Nat×Nat)):List (Nat×Nat):=match h with
 | []=>[]
 |(i,_)::r=>(pi L i,i)::uG r L
def Nw(ids:List Nat):List (Nat×TB S)->List Nat
 | []=>[]
 |(i,_)::r=>bif jG i ids then Nw ids r else i::Nw ids r
def Db(P:Program)(op:Op)(bX:dU S):Option (FuncId×List (TV S)):=match gx op with
 |some (f,a)=>match fG bX f with
  |some (.fn g gk)=>match pP bX a with
   |some l=>bif enters P g then some (g,l++gk)else none
   |none=>none
  |_=>none
 |none=>none
end
section
variable (B:jg) (P:Program)
def Qv(hp:Pg B.S)(ok:Nat->Bool)(π:Nat->Nat)(s:dZ B.S):List (Nat×TB B.S)->Option jh
 | []=>some []
 |(id,b)::r=>sI (match bJ s.heap (π id)with
  |some b'=>zo B hp ok π b b'
  |none=>none) (Qv hp ok π s r)
def Qw(hp:Pg B.S)(ok:Nat->Bool)(σ:Nat->Nat)(H1:dZ B.S):List (Nat×TB B.S)->Option jh
 | []=>some []
 |(id,b)::r=>sI (match bJ H1.heap (σ id)with
  |some b'=>zo B hp ok σ b b'
  |none=>none) (Qw hp ok σ H1 r)
def I7{S:Nat->Type}(rest:List (Nat×TB S))(id:Nat):Bool:=jG id (rest.map (·.1))||rest.any λp=>gm p.2&&!(gb p.1 id)
def EW(Lp Ls:List (Nat×Nat))(H0 H1 s:dZ B.S)(kt rest:List (Nat×TB B.S))(cr:Nat):Bool:=
 H0.heap.all (λp=>Nat.blt p.1 H0.cr&&(!(gm p.2)||Nat.blt (pi Lp p.1) s.cr)&&H0.heap.all λq=>Nat.beq p.1 q.1||!(Nat.beq (pi Lp p.1) (pi Lp q.1)))&&
 kt.all (λp=>Nat.blt p.1 cr&&!(jG p.1 (rest.map (·.1)))&&(!(gm p.2)||Nat.blt (pi Ls p.1) H1.cr)&&(Nat.ble s.cr p.1||((bJ H0.heap (pi Ls p.1)).isSome&&Nat.beq (pi Lp (pi Ls p.1)) p.1))&&kt.all λq=>Nat.beq p.1 q.1||!(Nat.beq (pi Ls p.1) (pi Ls q.1)))&&
 rest.all (λp=>Nat.blt p.1 cr&&H0.heap.all λq=>!(Nat.beq (pi Lp q.1) p.1))&&
 Nat.ble s.cr cr&&yQ (kP B s.heap) (kP B (kt++rest))&&
 (pz H0.heap&&pz H1.heap&&pz s.heap&&pz (kt++rest)&&zg cr (kt++rest)&&zg H0.cr H0.heap)
def Qx(Ls:List (Nat×Nat))(H0 H1:dZ B.S)(n:Nat):List (Nat×TB B.S)->Option jh
 | []=>some []
 |(id,b)::r=>sI (bif gm b&&Nat.blt id n then(match bJ H1.heap (pi Ls id)with
  |some b1=>(match bJ H0.heap (pi Ls id)with
   |some b0=>zo B ([],[]) (λ_=>true) (pi []) b1 b0
   |none=>none)
  |none=>none)else some []) (Qx Ls H0 H1 n r)
def pS(Lp Lr:List (Nat×Nat))(kt rest:List (Nat×TB B.S))(cD:List (TV B.S))(H0:dZ B.S)(x:TV B.S)(H1:dZ B.S)(args:List (TV B.S))(s:dZ B.S):TV B.S×dZ B.S×jh:=
 (EV Lr 4 x,⟨kt++rest,s.cr+(H1.cr-H0.cr)⟩,match(bif EW B Lp (uG H1.heap Lr) H0 H1 s kt rest (s.cr+(H1.cr-H0.cr))then
   sI (Lt (Hn B (H0.heap,s.heap) (gR 0 (dA B H0).heap) (pw Lp (jN Lp s.cr H0.heap)) 4) cD args) (sI (Hn B (kt,H1.heap) (okF (I7 rest) (dA B ⟨kt++rest,s.cr+(H1.cr-H0.cr)⟩).heap) (pw (uG H1.heap Lr) (jN (uG H1.heap Lr) H1.cr kt)) 4 (EV Lr 4 x) x) (sI (Qv B (H0.heap,s.heap) (gR 0 (dA B H0).heap) (pw Lp (jN Lp s.cr H0.heap)) s H0.heap)
    (sI (Qw B (kt,H1.heap) (okF (I7 rest) (dA B ⟨kt++rest,s.cr+(H1.cr-H0.cr)⟩).heap) (pw (uG H1.heap Lr) (jN (uG H1.heap Lr) H1.cr kt)) H1 kt) (Qx B (uG H1.heap Lr) H0 H1 s.cr kt))))else none)with
  |some q=>q
  |none=>[(.any,.iO)])
def fp(cD:List (TV B.S))(H0:dZ B.S)(x:TV B.S)(H1:dZ B.S)(args:List (TV B.S))(s:dZ B.S):TV B.S×dZ B.S×jh:=
 match prA cD args H0 s with
 |Lp=>match Lp++T1 H0.cr s.cr Lp H1.heap with
  |Lr=>pS B Lp Lr (Xb Lr H1.heap) (ly (Nw (H0.heap.map λp=>pi Lp p.1) s.heap) s.heap) cD H0 x H1 args s
end
theorem zC{hp:Pg B.S}{ok:Nat->Bool}{π:Nat->Nat}{s:dZ B.S}: ∀{h:List (Nat×TB B.S)}{q:jh},Qv B hp ok π s h=some q->(∀p∈q,p.1=p.2)-> ∀{id:Nat}{b:TB B.S},bJ h id=some b-> ∃b' q',bJ s.heap (π id)=some b'/\zo B hp ok π b b'=some q'/\ ∀p∈q',p.1=p.2
 | [],_,_,_,id,_,hg=>by simp[di]at hg
 |(k,b0)::r,q,h,hq,id,b,hg=>by
  obtain⟨⟨q1,h1,e1⟩,q2,h2,e2⟩:=gv h hq;simp only[cZ]at hg;split at hg
  ·rename_i e;cases hg;subst e;split at h1
   ·rename_i b' hb;exact⟨b',_,hb,h1,e1⟩
   ·cases h1
  ·exact zC h2 e2 hg
theorem qU{hp:Pg B.S}{ok:Nat->Bool}{σ:Nat->Nat}{H1:dZ B.S}: ∀{h:List (Nat×TB B.S)}{q:jh},Qw B hp ok σ H1 h=some q->(∀p∈q,p.1=p.2)-> ∀{id:Nat}{b:TB B.S},bJ h id=some b-> ∃b' q',bJ H1.heap (σ id)=some b'/\zo B hp ok σ b b'=some q'/\ ∀p∈q',p.1=p.2
 | [],_,_,_,id,_,hg=>by simp[di]at hg
 |(k,b0)::r,q,h,hq,id,b,hg=>by
  obtain⟨⟨q1,h1,e1⟩,q2,h2,e2⟩:=gv h hq;simp only[cZ]at hg;split at hg
  ·rename_i e;cases hg;subst e;split at h1
   ·rename_i b' hb;exact⟨b',_,hb,h1,e1⟩
   ·cases h1
  ·exact qU h2 e2 hg
theorem EX{Ls:List (Nat×Nat)}{H0 H1:dZ B.S}{n:Nat}: ∀{h:List (Nat×TB B.S)}{q:jh},Qx B Ls H0 H1 n h=some q->(∀p∈q,p.1=p.2)-> ∀{id:Nat}{b:TB B.S},bJ h id=some b->gm b=true->id<n-> ∃b1 b0 q',bJ H1.heap (pi Ls id)=some b1/\bJ H0.heap (pi Ls id)=some b0/\zo B ([],[]) (λ_=>true) (pi []) b1 b0=some q'/\ ∀p∈q',p.1=p.2
 | [],_,_,_,id,_,hg,_,_=>by simp[di]at hg
 |(k,c)::r,q,h,hq,id,b,hg,hf,hn=>by
  obtain⟨⟨q1,h1,e1⟩,q2,h2,e2⟩:=gv h hq;simp only[cZ]at hg;split at hg
  ·rename_i e;cases hg;subst e;simp only[hf,Kp hn,Bool.and_true,dt]at h1;split at h1
   ·rename_i b1 uj;split at h1
    ·rename_i b0 D7;exact⟨b1,b0,_,uj,D7,h1,e1⟩
    ·cases h1
   ·cases h1
  ·exact EX h2 e2 hg hf hn
theorem I8{x:Nat}{l:List Nat}(h:x∈l):jG x l=true:=by
 unfold jG;exact AO.2 ⟨x,h,O0 x⟩
theorem Xc{rest:List (Nat×TB B.S)}{id:Nat}{b:TB B.S}(h:bJ rest id=some b):jG id (rest.map (·.1))=true:=I8 (kl.2 ⟨(id,b),oR h,rfl⟩)
theorem Hs{a b:List (Nat×TB B.S)}:kP B (a++b)=kP B a++kP B b:=by
 induction a with
 |nil=>rfl
 |cons p r ih=>obtain⟨i,x⟩:=p;simp only[yh,kP,ih]
theorem iW{h:List (Nat×TB B.S)}{id:Nat}{b:TB B.S}: ∀{ks:List Nat},bJ (ly ks h) id=some b->bJ h id=some b
 | [],hg=>by simp[ly,di]at hg
 |k::r,hg=>by
  unfold ly at hg;split at hg
  ·rename_i c hc;simp only[cZ]at hg;split at hg
   ·rename_i e;cases hg;subst e;exact hc
   ·exact iW hg
  ·exact iW hg
section
variable {Lp Ls:List (Nat×Nat)} {H0 H1 s:dZ B.S} {kt rest:List (Nat×TB B.S)} {cr:Nat} {ks:List Nat}
theorem I9(wH:rest=ly ks s.heap)(hb:EW B Lp Ls H0 H1 s kt rest cr=true){q1 q2 q3:jh}
  (h1:Qv B (H0.heap,s.heap) (gR 0 (dA B H0).heap) (pw Lp (jN Lp s.cr H0.heap)) s H0.heap=some q1) (e1: ∀p∈q1,p.1=p.2)
  (h2:Qw B (kt,H1.heap) (okF (I7 rest) (dA B ⟨kt++rest,cr⟩).heap) (pw Ls (jN Ls H1.cr kt)) H1 kt=some q2) (e2: ∀p∈q2,p.1=p.2)
  (h3:Qx B Ls H0 H1 s.cr kt=some q3) (e3: ∀p∈q3,p.1=p.2):
  Fits (pw Lp (jN Lp s.cr H0.heap)) (pw Ls (jN Ls H1.cr kt)) (I7 rest) (dA B H0) (dA B H1) (dA B s) (dA B ⟨kt++rest,cr⟩):=by
 simp only[EW,fE]at hb;obtain⟨⟨⟨⟨⟨b1,b2⟩,b3⟩,b4⟩,b5⟩,⟨⟨⟨⟨w0,w1⟩,w2⟩,w3⟩,w4⟩,w5⟩:=hb;have b4:=tR b4;have k0: ∀{id b},bJ H0.heap id=some b->id<H0.cr/\(gm b=true->pi Lp id<s.cr)/\(∀{fL b'},bJ H0.heap fL=some b'->pi Lp id=pi Lp fL->id=fL)/\ ∃b',bJ s.heap (pi Lp id)=some b'/\(gm b=true->b'=b):=λ{id b}hg=>by
  have:=dV b1 hg;simp only[fE,ru,tY,qn]at this;obtain⟨⟨c1,c2⟩,c3⟩:=this;refine⟨c1,λhf=>?_,λ{fL b'}kN e=>?_,?_⟩
  ·rcases c2 with h|h
   ·rw[hf]at h;cases h
   ·exact h
  ·have:=dV c3 kN;simp only[tY,qn]at this;rcases this with h|h
   ·exact jn h
   ·exact absurd e (Bb h)
  ·obtain⟨b',q',g1,g2,g3⟩:=zC h1 e1 hg;rw[lE w0 hg]at g1;refine⟨b',g1,λhf=>?_⟩;obtain⟨c,cl,pre,n,post,rfl⟩:=lZ hf;exact xQ g2 g3
 have KD: ∀{w b id x},bJ H0.heap w=some b->bJ (eX B w b) id=some x->pw Lp (jN Lp s.cr H0.heap) id=pi Lp w+(id-w)/\gb w id=false/\gm b=true:=λ{w b id x}hg hx=>by
  obtain⟨f1,f2⟩:=fh hx;exact⟨Hm w0 hg f1 ((k0 hg).2.1 f1) f2,f2,f1⟩
 have T2:zm B H0.heap (gR 0 (dA B H0).heap) (pw Lp (jN Lp s.cr H0.heap)):=λw b hg id x hx=>⟨qL (jm w0 hg hx),by rw[(KD hg hx).1,lE w0 hg]⟩;have YW: ∀{i x},bJ (dA B H0).heap i=some x->(∃b b',bJ H0.heap i=some b/\pw Lp (jN Lp s.cr H0.heap) i=pi Lp i/\bJ s.heap (pi Lp i)=some b')\/(∃w b,bJ H0.heap w=some b/\gm b=true/\bJ (eX B w b) i=some x/\pw Lp (jN Lp s.cr H0.heap) i=pi Lp w+(i-w)/\bJ s.heap (pi Lp w)=some b/\gb (pi Lp w) (pi Lp w+(i-w))=false):=λ{i x}hx=>by
  rcases gS w0 hx with⟨b,hg,rfl⟩|⟨_,w,b,hg,hr⟩
  ·obtain⟨_,_,_,b',g1,_⟩:=k0 hg;exact .inl ⟨b,b',hg,lE w0 hg,g1⟩
  ·obtain⟨r1,r2,r3⟩:=KD hg hr;obtain⟨_,_,_,b',g1,g2⟩:=k0 hg;have:=g2 r3;subst this;obtain⟨o1,o2⟩:=fi r2;exact .inr ⟨w,_,hg,r3,hr,r1,g1,lQ (by omega) (by omega)⟩
 have kd: ∀{id b},bJ kt id=some b->id<cr/\bJ rest id=none/\(gm b=true->pi Ls id<H1.cr)/\(id<s.cr->(∃b0,bJ H0.heap (pi Ls id)=some b0)/\pi Lp (pi Ls id)=id)/\ ∀{fL b'},bJ kt fL=some b'->pi Ls id=pi Ls fL->id=fL:=λ{id b}hg=>by
  have:=dV b2 hg;simp only[fE,ru,tY,qn,JP]at this;obtain⟨⟨⟨⟨c1,c2⟩,c3⟩,c4⟩,c5⟩:=this;refine⟨c1,?_,λhf=>?_,λhl=>?_,λ{fL b'}kN e=>?_⟩
  ·cases hr:bJ rest id with
   |none=>rfl
   |some x=>rw[Xc hr]at c2;cases c2
  ·rcases c3 with h|h
   ·rw[hf]at h;cases h
   ·exact h
  ·rcases c4 with h|h
   ·omega
   ·exact⟨Bp.1 h.1,jn h.2⟩
  ·have:=dV c5 kN;simp only[tY,qn]at this;rcases this with h|h
   ·exact jn h
   ·exact absurd e (Bb h)
 have Ja: ∀{id b},bJ kt id=some b->bJ (kt++rest) id=some b:=λhg=>by rw[dp,hg]
 have wd:pz kt=true:=by
  have: ∀{a b:List (Nat×TB B.S)},pz (a++b)=true->pz a=true:=by
   intro a
   induction a with
   |nil=>intro b _;rfl
   |cons p r ih=>
    intro b h;obtain⟨k,x⟩:=p;simp only[yh,pz,List.all_append,fE]at h |-
    exact⟨h.1.1,ih h.2⟩
  exact this w3
 have tu: ∀{id x},bJ (dA B ⟨kt++rest,cr⟩).heap id=some x->(∃b,bJ kt id=some b/\x=fS B b/\I7 rest id=false)\/(∃b,bJ rest id=some b/\x=fS B b/\I7 rest id=true)\/
   (∃w b,bJ kt w=some b/\gm b=true/\gb w id=false/\bJ (eX B w b) id=some x/\I7 rest id=false)\/(∃w b,bJ rest w=some b/\gm b=true/\gb w id=false/\bJ (eX B w b) id=some x/\I7 rest id=true):=λ{id x}hx=>by
  have frF:(bJ rest id=none)->(∀w b,bJ (kt++rest) w=some b->gm b=true->gb w id=false->bJ rest w=none)->(∀p∈rest,gm p.2=true->gb p.1 id=true)->I7 rest id=false:=λh1 _ h3=>by
   unfold I7;rw[JQ];constructor
   ·cases hm:jG id (rest.map (·.1))with
    |false=>rfl
    |true=>
     exfalso;unfold jG at hm;obtain⟨y,hy,hb⟩:=AO.1 hm;have:=jn hb;subst this;obtain⟨p,hp,e⟩:=kl.1 hy;have: ∀{l:List (Nat×TB B.S)}{k:Nat},(∃p∈l,p.1=k)->bJ l k≠none:=by
      intro l
      induction l with
      |nil=>rintro k ⟨p,hp,_⟩;simp at hp
      |cons a r ih=>
       rintro k ⟨p,hp,e⟩;obtain⟨i,z⟩:=a;simp only[cZ];split
       ·simp
       ·rename_i eU;simp only[mZ]at hp;rcases hp with rfl|hp
        ·exact absurd e eU
        ·exact ih ⟨p,hp,e⟩
     exact this ⟨p,hp,e⟩ h1
   ·cases hm:rest.any λp=>gm p.2&&!(gb p.1 id)with
    |false=>rfl
    |true=>
     exfalso;obtain⟨p,hp,hb⟩:=AO.1 hm;simp only[fE,qn]at hb;rw[h3 p hp hb.1]at hb;cases hb.2
  have frR: ∀p∈rest,gm p.2=true->bJ (kt++rest) p.1=some p.2:=λp hp hf=>by
   have: ∀{a b:List (Nat×TB B.S)},pz (a++b)=true-> ∀p∈b,gm p.2=true->bJ (a++b) p.1=some p.2:=by
    intro a
    induction a with
    |nil=>
     intro b
     induction b with
     |nil=>intro _ p hp;simp at hp
     |cons x r ih=>
      intro h p hp hf;obtain⟨k,z⟩:=x;simp only[sA,pz,fE]at h;simp only[mZ]at hp;simp only[sA,cZ];rcases hp with rfl|hp
      ·simp
      ·have:=pA.1 h.1 p hp;simp only[mz,hf,dt,fE,qn]at this;rw[dY (Bb this.2.2)];exact ih (by simpa using h.2) p hp hf
    |cons x r ih=>
     intro b h p hp hf;obtain⟨k,z⟩:=x;simp only[yh,pz,fE]at h;simp only[yh,cZ];have:=pA.1 h.1 p (Ga _ hp);simp only[mz,hf,dt,fE,qn]at this;rw[dY (Bb this.2.2)];exact ih h.2 p hp hf
   exact this w3 p hp hf
  rcases gS (s:=⟨kt++rest,cr⟩) w3 hx with⟨b,hg,rfl⟩|⟨hn,w,b,hg,hr⟩
  ·have sC: ∀p∈rest,gm p.2=true->gb p.1 id=true:=λp hp hf=>iV w3 (frR p hp hf) hg hf;have kN:=hg;simp only at kN;rw[dp]at kN;split at kN
   ·rename_i y hy;cases kN;exact .inl ⟨_,hy,rfl,frF (kd hy).2.1 (λw b' h1 h2 h3=>by rw[iV w3 h1 hg h2]at h3;cases h3) sC⟩
   ·exact .inr (.inl ⟨_,kN,rfl,by unfold I7;rw[Xc kN];rfl⟩)
  ·obtain⟨f1,f2⟩:=fh hr;have kN:=hg;simp only at kN hn;rw[dp]at kN;split at kN
   ·rename_i y hy;cases kN;refine .inr (.inr (.inl ⟨w,_,hy,f1,f2,hr,frF ?_ (λw' b' h1 h2 h3=>?_) λp hp hf=>?_⟩))
    ·rw[dp]at hn;split at hn
     ·cases hn
     ·exact hn
    ·have:=mA w3 h1 hg h2 f1 h3 f2;subst this;exact(kd hy).2.1
    ·cases ho:gb p.1 id with
     |true=>rfl
     |false=>
      exfalso;have:=mA w3 (frR p hp hf) hg hf f1 ho f2;have SM:=(kd hy).2.1;rw[<-this]at SM;have: ∀{l:List (Nat×TB B.S)}{k:Nat},(∃p∈l,p.1=k)->bJ l k≠none:=by
       intro l
       induction l with
       |nil=>rintro k ⟨p,hp,_⟩;simp at hp
       |cons a r ih=>
        rintro k ⟨p,hp,e⟩;obtain⟨i,z⟩:=a;simp only[cZ];split
        ·simp
        ·rename_i eU;simp only[mZ]at hp;rcases hp with rfl|hp
         ·exact absurd e eU
         ·exact ih ⟨p,hp,e⟩
      exact this ⟨p,hp,rfl⟩ SM
   ·refine .inr (.inr (.inr ⟨w,_,kN,f1,f2,hr,?_⟩));unfold I7;rw[tY];right;exact AO.2 ⟨_,oR kN,by simp only[f1,f2];rfl⟩
 have Ny: ∀{id b},bJ kt id=some b->pw Ls (jN Ls H1.cr kt) id=pi Ls id:=λhg=>lE wd hg;have mP: ∀{w b id x},bJ kt w=some b->bJ (eX B w b) id=some x->pw Ls (jN Ls H1.cr kt) id=pi Ls w+(id-w):=λ{w b id x}hg hx=>by
  obtain⟨f1,f2⟩:=fh hx;exact Hm wd hg f1 ((kd hg).2.2.1 f1) f2
 have hF1:zm B kt (okF (I7 rest) (dA B ⟨kt++rest,cr⟩).heap) (pw Ls (jN Ls H1.cr kt)):=λw b hg id x hx=>by
  obtain⟨f1,f2⟩:=fh hx;have nZ:=jm (s:=⟨kt++rest,cr⟩) w3 (Ja hg) hx;refine⟨?_,by rw[mP hg hx,Ny hg]⟩;unfold okF;rw[iK.2 ⟨_,nZ⟩,U9];rcases tu nZ with⟨_,_,_,h⟩|⟨b',h,_,_⟩|⟨_,_,_,_,_,_,h⟩|⟨w',b',h,g1,g2,_,_⟩
  ·rw[h];rfl
  ·exfalso;have:=iV (h:=kt++rest) (id:=id) (b':=b') w3 (Ja hg) (by
    rw[dp];cases hq:bJ kt id with
    |none=>exact h
    |some z=>rw[(kd hq).2.1]at h;cases h) f1
   rw[this]at f2;cases f2
  ·rw[h];rfl
  ·exfalso;have hw':bJ (kt++rest) w'=some b':=by
    rw[dp];cases hq:bJ kt w' with
    |none=>exact h
    |some z=>rw[(kd hq).2.1]at h;cases h
   have:=mA w3 hw' (Ja hg) g1 f1 g2 f2;subst this;rw[(kd hg).2.1]at h;cases h
 have hS: ∀{w b id x},bJ kt w=some b->bJ (eX B w b) id=some x-> ∃x',bJ (dA B H1).heap (pi Ls w+(id-w))=some x'/\A0 (okF (I7 rest) (dA B ⟨kt++rest,cr⟩).heap) (pw Ls (jN Ls H1.cr kt)) x x'/\bJ H1.heap (pi Ls w)=some b:=λ{w b id x}hg hx=>by
  obtain⟨f1,f2⟩:=fh hx;obtain⟨c,cl,pre,n,post,rfl⟩:=lZ f1;obtain⟨b',q',g1,g2,g3⟩:=qU h2 e2 hg;rw[Ny hg]at g1;have:=xQ g2 g3;subst this;obtain⟨x',s7,hc⟩:=uD (w':=pi Ls w) (λid x hx=>⟨(hF1 w _ hg id x hx).1,mP hg hx⟩) id x hx;exact⟨x',jm w1 g1 s7,hc,g1⟩
 refine⟨?_,?_,?_,?_,?_,?_,?_,b4,?_⟩
 ·intro id x hx;rcases gS w0 hx with⟨b,hg,rfl⟩|⟨_,w,b,hg,hr⟩
  ·obtain⟨b',q',g1,g2,g3⟩:=zC h1 e1 hg;exact⟨_,dE g1,C4 T2 g2 g3⟩
  ·obtain⟨r1,r2,r3⟩:=KD hg hr;obtain⟨_,_,_,b',g1,g2⟩:=k0 hg;have:=g2 r3;subst this;obtain⟨c,cl,pre,n,post,rfl⟩:=lZ r3;obtain⟨x',s7,hc⟩:=uD (w':=pi Lp w) (λid x hx=>⟨(T2 w _ hg id x hx).1,(KD hg hx).1⟩) id x hr;exact⟨x',by rw[r1];exact jm w2 g1 s7,hc⟩
 ·intro id fL x x' hx s7 e;rcases YW hx with⟨b,b',g1,g2,g3⟩|⟨w,b,g1,f1,g2,g3,g4,g5⟩<;>rcases YW s7 with⟨b2,b2',g1',YX,S0⟩|⟨w',b2,g1',Pm,YX,S0,g4',g5'⟩
  ·exact(k0 g1).2.2.1 g1' (by rw[<-g2,<-YX,e])
  ·exfalso;have:=iV w2 g4' g3 Pm;rw[<-g2,e,S0,g5']at this;cases this
  ·exfalso;have:=iV w2 g4 S0 f1;rw[<-YX,<-e,g3,g5]at this;cases this
  ·have hw:=mA w2 g4 g4' f1 Pm g5 (by rw[<-g3,e,S0];exact g5');have:=(k0 g1).2.2.1 g1' hw;subst this;obtain⟨o1,o2⟩:=fi (fh g2).2;obtain⟨o3,o4⟩:=fi (fh YX).2;omega
 ·intro id x hx;rcases gS w0 hx with⟨b,hg,rfl⟩|⟨_,w,b,hg,hr⟩
  ·exact(k0 hg).1
  ·obtain⟨_,r2,r3⟩:=KD hg hr;have:=dV w5 hg;simp only[r3,qc,Ii]at this;have:=tR this;obtain⟨o1,o2⟩:=fi r2;show id<H0.cr;omega
 ·intro id x hx hf;rcases tu hx with⟨b,hg,rfl,_⟩|⟨_,_,_,h⟩|⟨w,b,hg,f1,f2,hr,_⟩|⟨_,_,_,_,_,_,h⟩
  ·obtain⟨b',q',g1,g2,g3⟩:=qU h2 e2 hg;refine⟨_,dE g1,C4 hF1 g2 g3,λhl=>?_⟩;obtain⟨⟨b0,k1⟩,k2⟩:=(kd hg).2.2.2.1 hl;rw[Ny hg];exact⟨iK.2 ⟨_,dE k1⟩,by rw[lE w0 k1];exact k2⟩
  ·rw[h]at hf;cases hf
  ·obtain⟨x',q1,q2,q3⟩:=hS hg hr;refine⟨x',by rw[mP hg hr];exact q1,q2,λhl=>?_⟩;obtain⟨o1,o2⟩:=fi f2;have vr:w<s.cr:=Nat.lt_trans o1 hl;obtain⟨b1,b0,q',g1,g2,g3,g4⟩:=EX h3 e3 hg f1 vr;rw[q3]at g1;cases g1;obtain⟨c,cl,pre,n,post,rfl⟩:=lZ f1;have:=xQ g3 g4;subst this;obtain⟨x2,RL,_⟩:=uD (w':=pi Ls w) (ok:=λ_=>true) (π:=λid=>pi Ls w+(id-w)) (λid x hx=>⟨rfl,rfl⟩) id x hr;have k2:=((kd hg).2.2.2.1 vr).2;rw[mP hg hr];refine⟨iK.2 ⟨_,jm w0 g2 RL⟩,?_⟩;rw[(KD g2 RL).1,k2];omega
  ·rw[h]at hf;cases hf
 ·intro id x hx hf;rcases tu hx with⟨_,_,_,h⟩|⟨b,hg,rfl,_⟩|⟨_,_,_,_,_,_,h⟩|⟨w,b,hg,f1,f2,hr,_⟩
  ·rw[h]at hf;cases hf
  ·have hs:bJ s.heap id=some b:=by subst wH;exact iW hg
   refine⟨dE hs,λi x' hi e=>?_⟩;rcases YW hi with⟨b',b2,g1,g2,g3⟩|⟨w',b',g1,Pm,g2,g3,g4,g5⟩
   ·have:=dV b3 hg;simp only[fE]at this;have:=dV this.2 g1;simp only[qn]at this;exact Bb this (by rw[<-g2,e])
   ·have:=iV w2 g4 hs Pm;rw[<-e,g3,g5]at this;cases this
  ·rw[h]at hf;cases hf
  ·have hs:bJ s.heap w=some b:=by subst wH;exact iW hg
   refine⟨jm w2 hs hr,λi x' hi e=>?_⟩;rcases YW hi with⟨b',b2,g1,g2,g3⟩|⟨w',b',g1,Pm,g2,g3,g4,g5⟩
   ·have:=iV w2 hs g3 f1;rw[<-g2,e,f2]at this;cases this
   ·have hw:=mA w2 g4 hs Pm f1 (by rw[<-g3,e,g3]at *;exact g5) (by exact f2);have:=dV b3 hg;simp only[fE]at this;have:=dV this.2 g1;simp only[qn]at this;exact Bb this hw
 ·intro id fL x x' hx s7 hf Eh e;rcases tu hx with⟨b,hg,_,_⟩|⟨_,_,_,h⟩|⟨w,b,hg,f1,f2,hr,_⟩|⟨_,_,_,_,_,_,h⟩
  ·rcases tu s7 with⟨b',kN,_,_⟩|⟨_,_,_,h⟩|⟨w',b',kN,Pm,f2',GY,_⟩|⟨_,_,_,_,_,_,h⟩
   ·exact(kd hg).2.2.2.2 kN (by rw[<-Ny hg,<-Ny kN,e])
   ·rw[h]at Eh;cases Eh
   ·exfalso;obtain⟨y,q1,_,q3⟩:=hS kN GY;obtain⟨b2,q',g1,_,_⟩:=qU h2 e2 hg;rw[e,mP kN GY]at g1;have:=iV w1 q3 g1 Pm;obtain⟨o1,o2⟩:=fi f2';rw[lQ (by omega) (by omega)]at this;cases this
   ·rw[h]at Eh;cases Eh
  ·rw[h]at hf;cases hf
  ·rcases tu s7 with⟨b',kN,_,_⟩|⟨_,_,_,h⟩|⟨w',b',kN,Pm,f2',GY,_⟩|⟨_,_,_,_,_,_,h⟩
   ·exfalso;obtain⟨y,q1,_,q3⟩:=hS hg hr;obtain⟨b2,q',g1,_,_⟩:=qU h2 e2 kN;rw[<-e,mP hg hr]at g1;have:=iV w1 q3 g1 f1;obtain⟨o1,o2⟩:=fi f2;rw[lQ (by omega) (by omega)]at this;cases this
   ·rw[h]at Eh;cases Eh
   ·obtain⟨y,_,_,q3⟩:=hS hg hr;obtain⟨y',_,_,q3'⟩:=hS kN GY;rw[mP hg hr,mP kN GY]at e;obtain⟨o1,o2⟩:=fi f2;obtain⟨o3,o4⟩:=fi f2';have hw:=mA (id:=pi Ls w+(id-w)) w1 q3 q3' f1 Pm (lQ (by omega) (by omega)) (lQ (by omega) (by omega));have:=(kd hg).2.2.2.2 kN hw;subst this;omega
   ·rw[h]at Eh;cases Eh
  ·rw[h]at hf;cases hf
 ·intro id x hx;rcases tu hx with⟨b,hg,_,_⟩|⟨b,hg,_,_⟩|⟨w,b,hg,f1,f2,hr,_⟩|⟨w,b,hg,f1,f2,hr,_⟩
  ·exact(kd hg).1
  ·have:=dV b3 hg;simp only[fE,ru]at this;exact this.1
  ·have:=dV w4 (Ja hg);simp only[f1,qc,Ii]at this;have:=tR this;obtain⟨o1,o2⟩:=fi f2;show id<cr;omega
  ·have kN:bJ (kt++rest) w=some b:=by
    rw[dp];cases hq:bJ kt w with
    |none=>exact hg
    |some z=>rw[(kd hq).2.1]at hg;cases hg
   have:=dV w4 kN;simp only[f1,qc,Ii]at this;have:=tR this;obtain⟨o1,o2⟩:=fi f2;show id<cr;omega
 ·intro id hd;rcases gS w2 hd with⟨b,hg,hb⟩|⟨hn,w,b,hg,hr⟩
  ·have:=mV b5 id (by rw[gi,hg,gX,<-hb]);simp only[dA];rw[dp,this]
  ·exact(nr hr).elim
end
theorem KE{f:FuncId}{cD args:List (TV B.S)}{H0 H1 s:dZ B.S}{x:TV B.S}{Lp Lr:List (Nat×Nat)}{kt rest:List (Nat×TB B.S)}{ks:List Nat}(wH:rest=ly ks s.heap)
  (h:dQ P f (eB B.E cD) (dA B H0) λy t=>y=x.er B.E/\t=dA B H1)
  (hq: ∀p∈(pS B Lp Lr kt rest cD H0 x H1 args s).2.2,p.1=p.2):dQ P f (eB B.E args) (dA B s) λy t=>y=(pS B Lp Lr kt rest cD H0 x H1 args s).1.er B.E/\t=dA B (pS B Lp Lr kt rest cD H0 x H1 args s).2.1:=by
 unfold pS at hq |-
 simp only at hq |-
 cases hb:EW B Lp (uG H1.heap Lr) H0 H1 s kt rest (s.cr+(H1.cr-H0.cr))with
 |false=>
  rw[hb]at hq;have:=hq (.any,.iO) (by simp);cases this
 |true=>
  rw[hb]at hq;simp only[dt]at hq;split at hq
  ·rename_i q h1;obtain⟨⟨q1,a1,e1⟩,q2,h2,e2⟩:=gv h1 hq;obtain⟨⟨q3,a2,e3⟩,q4,h3,e4⟩:=gv h2 e2;obtain⟨⟨q5,a3,e5⟩,q6,h4,e6⟩:=gv h3 e4;obtain⟨⟨q7,a4,e7⟩,q8,a5,e8⟩:=gv h4 e6;exact CG h (I9 wH hb a3 e5 a4 e7 a5 e8) (nu (λ_ _ _=>kb) a1 e1) (kb a2 e3)
  ·have:=hq (.any,.iO) (by simp);cases this
theorem EY{f:FuncId}{cD args:List (TV B.S)}{H0 H1 s:dZ B.S}{x:TV B.S}(h:dQ P f (eB B.E cD) (dA B H0) λy t=>y=x.er B.E/\t=dA B H1)
 (hq: ∀p∈(fp B cD H0 x H1 args s).2.2,p.1=p.2):dQ P f (eB B.E args) (dA B s) λy t=>y=(fp B cD H0 x H1 args s).1.er B.E/\t=dA B (fp B cD H0 x H1 args s).2.1:=KE rfl h hq
def dH(B:jg)(P:Program)(M:TM B.S):Option (FuncId×List (TV B.S)):=match M.o with
 |.ro l _=>(match l with
  |i::_=>match Gl B i.guard M.bX with
   |.go=>Db P i.op M.bX
   |_=>none
  | []=>none)
 |.rd l _ _=>(match l with
  |⟨.iI _ _,some i,sl⟩::_=>match Gl B i.guard M.bX with
   |.go=>Db P i.op (oe sl M.bX)
   |_=>none
  |_=>none)
 |_=>none
def RV{S:Nat->Type}(o:Option (FuncId×List (TV S))):Option FuncId:=o.map (·.1)
def mH{S:Nat->Type}(o:Option (FuncId×List (TV S))):List (TV S):=match o with
 |some (_,l)=>l
 |none=>[]
def jU(B:jg)(P:Program)(M:TM B.S)(s':dZ B.S):jh:=match M.o with
 |.rd l n _=>(match l with
  |⟨.iI _ c,_,_⟩::_=>(match EI B P false n s' c with
   |some q=>q
   |none=>[(.any,.iO)])
  |_=>[])
 |_=>[]
def qV(B:jg)(M:TM B.S)(v:TV B.S)(s':dZ B.S):TM B.S:=match M.o with
 |.ro (i::l) y=>⟨.ro l y,M.k,jq i.dst v M.bX,s'⟩
 |.rd (⟨_,some i,_⟩::l) n y=>⟨.rd l (wN B n) y,M.k,jq i.dst v M.bX,s'⟩
 |_=>M
theorem BQ{op:Op}{bX:dU B.S}{g:FuncId}{l:List (TV B.S)}{s:St}{K:AV->St->Prop}(h:Db P op bX=some (g,l))(hp:dQ P g (eB B.E l) s K):ows P op K (eY B bX) s:=by
 unfold Db at h;unfold ows;split at h
 ·rename_i f a hc;split at h
  ·rename_i g' gk hf;split at h
   ·rename_i l' hl;cases he:enters P g' with
    |false=>simp[he]at h
    |true=>
     simp only[he,dt]at h;cases h;simp only[hc,eL,hf,gX,lD,hl,TV.er];rw[tp]at hp;exact⟨he,hp⟩
   ·cases h
  ·cases h
 ·cases h
theorem BR{ρ:Option Nat}{g:FuncId}{l:List (TV B.S)}{v:TV B.S}{s':dZ B.S}(h:dH B P M=some (g,l))(hp:dQ P g (eB B.E l) (dA B M.s) λy t=>y=v.er B.E/\t=dA B s')(hq: ∀p∈jU B P M s',p.1=p.2)
  (hk:kR B P N ρ Q (qV B M v s')):kR B P N ρ Q M:=by
 obtain⟨o,k,bX,s⟩:=M;unfold dH at h;split at h
 ·rename_i l0 y ho;simp only at ho;subst ho;split at h
  ·rename_i i l1;split at h
   ·rename_i hg;show Gg _ _ _ _;refine ze (B:=B) ?_;simp only at hg;rw[hg];have hk:qM P (YK P N ρ Q k y) l1 (eY B (jq i.dst v bX)) (dA B s'):=hk;rw[iM]at hk;exact .inl (BQ h (hp.mono λy t ⟨e1,e2⟩=>by subst e1;subst e2;exact hk))
   ·cases h
  ·cases h
 ·rename_i l0 n y ho;simp only at ho;subst ho;split at h
  ·rename_i j c i sl l1;split at h
   ·rename_i hg;intro hn;show Gj _ _ _ _;refine rT (B:=B) ?_;simp only at hg;rw[hg];have hk:dq P (YK P N ρ Q k y) l1 (vJ B (wN B n)) (eY B (jq i.dst v bX)) (dA B s'):=hk (rV hn);rw[iM,rU]at hk;have hc:xn P (vJ B n) (dA B s') c:=by
     unfold jU at hq;simp only at hq;split at hq
     ·rename_i q hc;exact nM hn (λe=>by cases e) hc hq
     ·have:=hq (.any,.iO) (by simp);cases this
    have:=BQ (K:=λv s'=>xn P (vJ B n) s' c/\dq P (YK P N ρ Q k y) l1 (vJ B n) (fQ i.dst v (eY B bX)) s') h (hp.mono λy t ⟨e1,e2⟩=>by subst e1;subst e2;exact⟨hc,hk⟩);rw[oW]at this;exact this
   ·cases h
  ·cases h
 ·cases h
theorem vL{a:α}{g:FuncId}{cD:List (TV B.S)}{H0:dZ B.S}{X:α->TV B.S}{H1:α->dZ B.S}(hf:dv B P g cD H0 X H1 a)
  (k:RT B P N ρ Q (qV B (G B P N M).1 (fp B cD H0 (X a) (H1 a) (mH (dH B P (G B P N M).1)) (G B P N M).1.s).1 (fp B cD H0 (X a) (H1 a) (mH (dH B P (G B P N M).1)) (G B P N M).1.s).2.1))
  (hx:(RV (dH B P (G B P N M).1),(fp B cD H0 (X a) (H1 a) (mH (dH B P (G B P N M).1)) (G B P N M).1.s).2.2.map Prod.fst,(jU B P (G B P N M).1 (fp B cD H0 (X a) (H1 a) (mH (dH B P (G B P N M).1)) (G B P N M).1.s).2.1).map Prod.fst,(G B P N M).2.map Prod.fst)=
   (some g,(fp B cD H0 (X a) (H1 a) (mH (dH B P (G B P N M).1)) (G B P N M).1.s).2.2.map Prod.snd,(jU B P (G B P N M).1 (fp B cD H0 (X a) (H1 a) (mH (dH B P (G B P N M).1)) (G B P N M).1.s).2.1).map Prod.snd,(G B P N M).2.map Prod.snd)):RT B P N ρ Q M:=by
 simp only[Prod.mk.injEq]at hx;obtain⟨h0,h1,h2,h3⟩:=hx;refine qT h3 ⟨?_⟩;have hk:=k.v;generalize(G B P N M).1=m at *;cases hc:dH B P m with
 |none=>rw[hc]at h0;cases h0
 |some p=>
  obtain⟨g',l⟩:=p;rw[hc]at h0 h1 h2 hk;cases h0;exact BR hc (EY hf (eo h1)) (eo h2) hk
theorem cY{o:Option α}{K:α->Option β}{g:FuncId}{cD:List (TV B.S)}{H0:dZ B.S}{X:α->TV B.S}{H1:α->dZ B.S}(h:o.bind K=some r)(hf: ∀a,o=some a->dv B P g cD H0 X H1 a)
  (k: ∀a,o=some a->K a=some r->RT B P N ρ Q (qV B (G B P N M).1 (fp B cD H0 (X a) (H1 a) (mH (dH B P (G B P N M).1)) (G B P N M).1.s).1 (fp B cD H0 (X a) (H1 a) (mH (dH B P (G B P N M).1)) (G B P N M).1.s).2.1))
  (hx: ∀a,(RV (dH B P (G B P N M).1),(fp B cD H0 (X a) (H1 a) (mH (dH B P (G B P N M).1)) (G B P N M).1.s).2.2.map Prod.fst,(jU B P (G B P N M).1 (fp B cD H0 (X a) (H1 a) (mH (dH B P (G B P N M).1)) (G B P N M).1.s).2.1).map Prod.fst,(G B P N M).2.map Prod.fst)=
   (some g,(fp B cD H0 (X a) (H1 a) (mH (dH B P (G B P N M).1)) (G B P N M).1.s).2.2.map Prod.snd,(jU B P (G B P N M).1 (fp B cD H0 (X a) (H1 a) (mH (dH B P (G B P N M).1)) (G B P N M).1.s).2.1).map Prod.snd,(G B P N M).2.map Prod.snd):=by intro a;kernel_rfl):RT B P N ρ Q M:=
 let⟨a,ha,hK⟩:=mG h
 vL (hf a ha) (k a ha hK) (hx a)
theorem Nz{uH:Type}{o:Option (α⊕uH)}{K:α->Option β}{K':uH->Option β}{g:FuncId}{cD:List (TV B.S)}{H0:dZ B.S}{X:α->TV B.S}{X':uH->TV B.S}{H1:α->dZ B.S}{mQ:uH->dZ B.S}(h:o.bind (Sum.elim K K')=some r)
  (hf: ∀a,o=some a->dv B P g cD H0 (Sum.elim X X') (Sum.elim H1 mQ) a)
  (k: ∀a,o=some (.inl a)->K a=some r->RT B P N ρ Q (qV B (G B P N M).1 (fp B cD H0 (X a) (H1 a) (mH (dH B P (G B P N M).1)) (G B P N M).1.s).1 (fp B cD H0 (X a) (H1 a) (mH (dH B P (G B P N M).1)) (G B P N M).1.s).2.1))
  (k': ∀a,o=some (.inr a)->K' a=some r->RT B P N ρ Q (qV B (G B P N M).1 (fp B cD H0 (X' a) (mQ a) (mH (dH B P (G B P N M).1)) (G B P N M).1.s).1 (fp B cD H0 (X' a) (mQ a) (mH (dH B P (G B P N M).1)) (G B P N M).1.s).2.1))
  (hx: ∀a,(RV (dH B P (G B P N M).1),(fp B cD H0 (X a) (H1 a) (mH (dH B P (G B P N M).1)) (G B P N M).1.s).2.2.map Prod.fst,(jU B P (G B P N M).1 (fp B cD H0 (X a) (H1 a) (mH (dH B P (G B P N M).1)) (G B P N M).1.s).2.1).map Prod.fst,(G B P N M).2.map Prod.fst)=
   (some g,(fp B cD H0 (X a) (H1 a) (mH (dH B P (G B P N M).1)) (G B P N M).1.s).2.2.map Prod.snd,(jU B P (G B P N M).1 (fp B cD H0 (X a) (H1 a) (mH (dH B P (G B P N M).1)) (G B P N M).1.s).2.1).map Prod.snd,(G B P N M).2.map Prod.snd):=by intro a;kernel_rfl)
  (s7: ∀a,(RV (dH B P (G B P N M).1),(fp B cD H0 (X' a) (mQ a) (mH (dH B P (G B P N M).1)) (G B P N M).1.s).2.2.map Prod.fst,(jU B P (G B P N M).1 (fp B cD H0 (X' a) (mQ a) (mH (dH B P (G B P N M).1)) (G B P N M).1.s).2.1).map Prod.fst,(G B P N M).2.map Prod.fst)=
   (some g,(fp B cD H0 (X' a) (mQ a) (mH (dH B P (G B P N M).1)) (G B P N M).1.s).2.2.map Prod.snd,(jU B P (G B P N M).1 (fp B cD H0 (X' a) (mQ a) (mH (dH B P (G B P N M).1)) (G B P N M).1.s).2.1).map Prod.snd,(G B P N M).2.map Prod.snd):=by intro a;kernel_rfl):RT B P N ρ Q M:=by
 obtain⟨a,ha,hK⟩:=mG h;cases a with
 |inl a=>
  have uI:dv B P g cD H0 X H1 a:=hf (.inl a) ha;exact vL uI (k a ha hK) (hx a)
 |inr a=>
  have uI:dv B P g cD H0 X' mQ a:=hf (.inr a) ha;exact vL uI (k' a ha hK) (s7 a)
end
end Go.Am
