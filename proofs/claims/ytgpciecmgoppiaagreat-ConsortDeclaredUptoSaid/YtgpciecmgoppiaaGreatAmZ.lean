/- The logic AM, Z: walks on typed states: blocks that become immutable; functions that reach into the state, and calls of them. -/
import Derived.Test.YtgpciecmgoppiaaGreatAmY
set_option linter.all false
namespace Go.Am
open Go.RowKit
section
variable {S:Nat->Type}
def sT(f:TV S->TV S×iV):List (TV S)->List (TV S)×iV
 | []=>([],[])
 |x::r=>match f x with
  |(y,q)=>match sT f r with
   |(l,q2)=>(y::l,q++q2)
def Dz(id:Nat)(l:TV S)(len:Nat)(p:Option (TV S)):Nat->TV S->TV S×iV
 |0,x=>(x,[])
 |n+1,x=>match x with
  |.a y=>(match y with
   |.ms i st k=>bif Nat.beq i id&&Nat.beq st 0 then(l,[(.mp 0 0 k,.mp 0 0 len)])else(x,[])
   |.mp i el off=>bif Nat.beq i id&&Nat.beq el 0&&Nat.beq off 0 then(match p with
    |some v=>(v,[])
    |none=>(x,[]))else(x,[])
   |_=>(x,[]))
  |.fn g cs=>(match sT (Dz id l len p n) cs with
   |(cs,q)=>(.fn g cs,q))
  |.agg cs=>(match sT (Dz id l len p n) cs with
   |(cs,q)=>(.agg cs,q))
  |.dS cs=>(match sT (Dz id l len p n) cs with
   |(cs,q)=>(.dS cs,q))
  |x=>(x,[])
def wI(f:TV S->TV S×iV):dB S->dB S×iV
 | []=>([],[])
 |(t,x)::r=>match f x with
  |(y,q)=>match wI f r with
   |(l,q2)=>((t,y)::l,q++q2)
def lh(id:Nat)(f:TV S->TV S×iV):List (Nat×TB S)->List (Nat×TB S)×iV
 | []=>([],[])
 |(i,b)::r=>match lh id f r with
  |(h,q2)=>bif Nat.beq i id then(h,q2)else match b with
   |.cu n l=>(match sT f l with
    |(l,q)=>((i,.cu n l)::h,q++q2))
   |.rows n c x v m=>(match sT f v with
    |(v,q)=>((i,.rows n c x v m)::h,q++q2))
   |.fm n c w cl pre v post=>(match sT f v with
    |(v,q)=>((i,.fm n c w cl pre v post)::h,q++q2))
   |b=>((i,b)::h,q2)
def UF(b:Option (TB S)):Option (TV S×Nat×Option (TV S)):=match b with
 |some (.ls _ c xs m _)=>some (.l false c xs,m,none)
 |some (.cu _ l)=>some (.s false l,l.length,match l with
  | [e]=>bif e.QD then none else some (.ip (Cy e))
  |_=>none)
 |_=>none
def LU(id:Nat)(M:TM S):TM S×iV:=match UF (bn M.s.heap id)with
 |some (l,len,p)=>match wI (Dz id l len p 4) M.bf with
  |(bf,q)=>match lh id (Dz id l len p 4) M.s.heap with
   |(h,q2)=>(⟨M.o,M.k,bf,⟨h,M.s.bN⟩⟩,q++q2)
 |none=>(M,[(.any,.jN)])
end
section
variable {B:iU} {id len:Nat} {l:TV B.S} {elems:List AV}
theorem nI{f:TV B.S->TV B.S×iV}(hf: ∀x,(∀p∈(f x).2,p.1=p.2)->Fz id elems ((f x).1.er B.E) (x.er B.E)): ∀{cs:List (TV B.S)},(∀p∈(sT f cs).2,p.1=p.2)->Ap id elems (dY B.E (sT f cs).1) (dY B.E cs)
 | [],_=>.z
 |x::r,h=>.k (hf x λp hp=>h p (Ig _ hp)) (nI hf λp hp=>h p (Gh _ hp))
theorem ze{p:Option (TV B.S)}(hp: ∀v,p=some v-> ∃e cs,elems=[e]/\e.cells=cs/\v.er B.E=.ip cs)(hl:l.er B.E=.sl false elems)(hn:len=elems.length): ∀{n:Nat}{x:TV B.S},(∀q∈(Dz id l len p n x).2,q.1=q.2)->Fz id elems ((Dz id l len p n x).1.er B.E) (x.er B.E)
 |0,x,_=>.r _
 |n+1,x,h=>by
  unfold Dz at h |-
  split
  ·rename_i y;split
   ·rename_i i st k;have h: ∀p∈(bif Nat.beq i id&&Nat.beq st 0 then(l,[(AV.mp 0 0 k,AV.mp 0 0 len)])else(TV.a (AV.ms i st k),[])).2,p.1=p.2:=h;cases hc:(Nat.beq i id&&Nat.beq st 0)with
    |false=>exact .r _
    |true=>
     rw[hc]at h;simp only[eU]at hc;have e1:=jU hc.1;have e2:=jU hc.2;subst e1;subst e2;have:=h (.mp 0 0 k,.mp 0 0 len) (by simp);simp only[AV.mp.injEq]at this;have hk:=this.2.2;simp only[cP];rw[hl];have hk:k=elems.length:=by grind
     show Fz i elems (.sl false elems) (.ms i 0 k);exact .m (by omega) (by grind)
   ·rename_i i el off;cases hc:(Nat.beq i id&&Nat.beq el 0&&Nat.beq off 0)with
    |false=>exact .r _
    |true=>
     simp only[eU]at hc;have e1:=jU hc.1.1;have e2:=jU hc.1.2;have e3:=jU hc.2;subst e1;subst e2;subst e3;cases p with
     |none=>exact .r _
     |some v=>
      obtain⟨e,cs,h1,h2,h3⟩:=hp v rfl;show Fz i elems (v.er B.E) (.mp i 0 0);rw[h3];exact .o h1 h2
   ·exact .r _
  ·exact .f (nI (λx=>ze hp hl hn) h)
  ·exact .a (nI (λx=>ze hp hl hn) h)
  ·exact .t (nI (λx=>ze hp hl hn) h)
  ·exact .r _
theorem zf{f:TV B.S->TV B.S×iV}(hf: ∀x,(∀p∈(f x).2,p.1=p.2)->Fz id elems ((f x).1.er B.E) (x.er B.E)): ∀{bf:dB B.S},(∀p∈(wI f bf).2,p.1=p.2)-> ∀t x,bn (eI B (wI f bf).1) t=some x-> ∃y,bn (eI B bf) t=some y/\Fz id elems x y
 | [],_,t,x,hx=>by simp[wI,eI,df]at hx
 |(k,v)::r,h,t,x,hx=>by
  simp only[wI,eI,cG]at hx |-
  split at hx
  ·rename_i e;subst e;cases hx;exact⟨_,by simp,hf v λp hp=>h p (Ig _ hp)⟩
  ·rename_i e;rw[fN e];exact zf hf (λp hp=>h p (Gh _ hp)) t x hx
theorem xD{f:TV B.S->TV B.S×iV}(hf: ∀x,(∀p∈(f x).2,p.1=p.2)->Fz id elems ((f x).1.er B.E) (x.er B.E)): ∀{h:List (Nat×TB B.S)},(∀p∈(lh id f h).2,p.1=p.2)-> ∀i b,bn (kS B (lh id f h).1) i=some b->i≠id/\ ∃b',bn (kS B h) i=some b'/\Sh id elems b b'
 | [],_,i,b,hx=>by simp[lh,kS,df]at hx
 |(k,v)::r,h,i,b,hx=>by
  simp only[lh]at h hx;cases hk:Nat.beq k id with
  |true=>
   rw[hk]at h hx;have e:=jU hk;obtain⟨h1,b',h2,h3⟩:=xD hf h i b hx;refine⟨h1,b',?_,h3⟩;simp only[kS,cG]
   grind
  |false=>
   rw[hk]at h hx;simp only[dv]at h hx;have fG:k≠id:=λe=>by simp_all
   have rest: ∀{q:iV},(∀p∈(lh id f r).2,p.1=p.2)->bn (kS B (lh id f r).1) i=some b->k≠i->i≠id/\ ∃b',bn (kS B ((k,v)::r)) i=some b'/\Sh id elems b b':=λ{_}hq hx e=>by
    obtain⟨h1,b',h2,h3⟩:=xD hf hq i b hx;refine⟨h1,b',?_,h3⟩;simp only[kS,cG]
    grind
   split at hx
   ·rename_i n l0;simp only at h hx;have Sx: ∀p∈(sT f l0).2,p.1=p.2:=λp hp=>h p (Ig _ hp);have Q0: ∀p∈(lh id f r).2,p.1=p.2:=λp hp=>h p (Gh _ hp);simp only[kS,cG]at hx;split at hx
    ·rename_i e;subst e;cases hx;exact⟨fG,.cells n (dY B.E l0),by simp[kS,cG,fT],.cells (nI hf Sx)⟩
    simp_all
   ·rename_i n c x0 v0 m;simp only at h hx;have Sx: ∀p∈(sT f v0).2,p.1=p.2:=λp hp=>h p (Ig _ hp);have Q0: ∀p∈(lh id f r).2,p.1=p.2:=λp hp=>h p (Gh _ hp);simp only[kS,cG]at hx;split at hx
    ·rename_i e;subst e;cases hx;exact⟨fG,_,by simp[kS,cG,fT],.cells (.p (.r _) (.p (nI hf Sx) (.r _)))⟩
    simp_all
   ·rename_i n c w cl pre v0 post;simp only at h hx;have Sx: ∀p∈(sT f v0).2,p.1=p.2:=λp hp=>h p (Ig _ hp);have Q0: ∀p∈(lh id f r).2,p.1=p.2:=λp hp=>h p (Gh _ hp);have hl:=(nI hf Sx).length;rw[iw,iw]at hl;simp only[kS,cG]at hx;split at hx
    ·rename_i e;subst e;cases hx;refine⟨fG,fT B (.fm n c w cl pre v0 post),by simp[kS,cG],?_⟩;simp only[fT,hl];exact .cells (.p (.r _) (.p (nI hf Sx) (.r _)))
    simp_all
   ·rename_i hv LK hv3;have Q0: ∀p∈(lh id f r).2,p.1=p.2:=by
     grind
    simp only[kS,cG]at hx;split at hx
    ·rename_i e;subst e;cases hx;exact⟨fG,_,by simp[kS,cG],.r _⟩
    simp_all
theorem I7{s:dH B.S}{id len:Nat}{l:TV B.S}{p:Option (TV B.S)}(h:UF (bn s.heap id)=some (l,len,p)): ∃cq elems,bn (db B s).heap id=some (.cells cq elems)/\l.er B.E=.sl false elems/\len=elems.length/\ ∀v,p=some v-> ∃e cs,elems=[e]/\e.cells=cs/\v.er B.E=.ip cs:=by
 unfold UF at h;split at h
 ·rename_i n c xs m hm hg;cases h;exact⟨n,_,by simp only[dl hg,fT],rfl,by simp[hm],λv hv=>by cases hv⟩
 ·rename_i n l hg;cases h;exact⟨n,_,by simp only[dl hg,fT],rfl,by simp[iw],λv hv=>by
   split at hv
   ·rename_i e;cases hi:e.QD with
    |true=>grind
    |false=>
     rw[hi]at hv;cases hv;exact⟨e.er B.E,_,rfl,rfl,by simp only[TV.er,Bn hi]⟩
   ·cases hv⟩
 ·cases h
variable {P:Program} {N:Nat} {ρ:Option Nat} {Q:Exit->Env->St->Prop} {M:TM B.S}
def aaQ{S:Nat->Type}(id:Nat)(M:TM S):Bool:=bif Nat.blt id 1000000 then aaM id M else Sq (Nat.beq ((id-1000000)%2) 1) ((id-1000000) / 2) M
def toReg(B:iU)(P:Program)(N:Nat)(fY:Nat)(M:TM B.S):TM B.S×iV:=Uo B P N (aaQ fY) FT M
theorem CY{f:TV B.S->TV B.S×iV}: ∀{h:List (Nat×TB B.S)},ia h id=true->mN B (lh id f h).1=mN B h
 | [],_=>rfl
 |(k,v)::r,hd=>by
  have key: ∀{v':TB B.S},eP B k v'=eP B k v->ia r id=true->(∀x,(lh id f ((k,v)::r)).1=(bif Nat.beq k id then(lh id f r).1 else x)->x=(k,v')::(lh id f r).1->gi v=false\/Nat.beq k id=false->mN B (lh id f ((k,v)::r)).1=mN B ((k,v)::r)):=λ{v'}e1 hr x ex ex2 hc=>by
   rw[ex];cases hk:Nat.beq k id with
   |true=>
    have hf:gi v=false:=by
     rcases hc with h|h
     ·exact h
     ·rw[hk]at h;cases h
    simp only[cP,mN,CY hr,rB hf,xm]
   |false=>simp only[dv,ex2,mN,CY hr,e1]
  cases v with
  |fr c cl pre n post=>
   simp only[ia,eU,sr]at hd;exact key (v':=.fr c cl pre n post) rfl hd.2 _ (by simp only[lh];cases Nat.beq k id<;>rfl) rfl (.inr hd.1.2)
  |cu n l=>exact key (v':=.cu n (sT f l).1) rfl hd _ (by simp only[lh];cases Nat.beq k id<;>rfl) rfl (.inl rfl)
  |rows n c x v m=>exact key (v':=.rows n c x (sT f v).1 m) rfl hd _ (by simp only[lh];cases Nat.beq k id<;>rfl) rfl (.inl rfl)
  |fm n c w cl pre v post=>exact key (v':=.fm n c w cl pre (sT f v).1 post) rfl hd _ (by simp only[lh];cases Nat.beq k id<;>rfl) rfl (.inl rfl)
  |ls n c x m hm=>exact key (v':=.ls n c x m hm) rfl hd _ (by simp only[lh];cases Nat.beq k id<;>rfl) rfl (.inl rfl)
  |raw b=>exact key (v':=.raw b) rfl hd _ (by simp only[lh];cases Nat.beq k id<;>rfl) rfl (.inl rfl)
  |lp c e st pd=>exact key (v':=.lp c e st pd) rfl hd _ (by simp only[lh];cases Nat.beq k id<;>rfl) rfl (.inl rfl)
def KV(B:iU)(id:Nat)(s:dH B.S):Bool:=KU B s.heap&&pP s.heap&&ia s.heap id
theorem zg{w i:Nat}{b:TB B.S}: ∀{h:List (Nat×TB B.S)},ia h i=true->bn h w=some b->gi b=true->fV w i=true
 | [],_,hg,_=>by simp[df]at hg
 |(k,x)::r,hd,hg,hf=>by
  simp only[cG]at hg;split at hg
  ·rename_i e;cases hg;subst e;obtain⟨c,cl,pre,n,post,rfl⟩:=l6 hf;simp only[ia,eU]at hd;exact hd.1.1
  ·refine zg (h:=r) ?_ hg hf;cases x with
   |fr c cl pre n post=>simp only[ia,eU]at hd;exact hd.2
   |_=>exact hd
theorem UG{id:Nat}{M:TM B.S}(ho:yT M.o=true)(hd:KV B id M.s=true)(hq: ∀p∈(LU id M).2,p.1=p.2)(h:kU B P N ρ Q (LU id M).1):kU B P N ρ Q M:=by
 obtain⟨o,k,bf,s⟩:=M;cases o<;>simp only[yT]at ho<;>first|(cases ho;done)|skip
 rename_i c;simp only[KV,eU]at hd;obtain⟨⟨hd,hw⟩,UH⟩:=hd;unfold LU at hq h;split at hq
 ·rename_i l len p hf;rw[hf]at h;obtain⟨cq,elems,hg,hl,hn,hp⟩:=I7 hf;have Xz: ∀x:TV B.S,(∀q∈(Dz id l len p 4 x).2,q.1=q.2)->Fz id elems ((Dz id l len p 4 x).1.er B.E) (x.er B.E):=λx=>ze hp hl hn;have h:gY P N ρ c (QK P N ρ Q k) (eI B (wI (Dz id l len p 4) bf).1) (db B ⟨(lh id (Dz id l len p 4) s.heap).1,s.bN⟩):=h;have h1:=zf Xz (bf:=bf) λp hp=>hq p (Ig _ hp);have h2:=xD (id:=id) Xz (h:=s.heap) λp hp=>hq p (Gh _ hp);refine TQ (S2:=db B ⟨(lh id (Dz id l len p 4) s.heap).1,s.bN⟩) hg h1 ?_ rfl (λi e=>absurd e (mT (xC (n:=s.bN) hd) i)) h;intro i b hb;simp only[db,CY UH]at hb;rw[cX]at hb;split at hb
  ·rename_i x hx;cases hb;obtain⟨g1,b',g2,g3⟩:=h2 i _ hx;exact⟨g1,b',by simp only[db];rw[cX,g2],g3⟩
  ·obtain⟨w,b',g1,g2⟩:=yW hw hb;refine⟨λe=>?_,b,js hw g1 g2,.r _⟩;subst e;obtain⟨f1,f2⟩:=fc g2
   grind [zg]
 grind
theorem tZ(fY id:Nat)(k:RT B P N ρ Q (LU id (toReg B P N fY M).1).1)
  (hx:(yT (toReg B P N fY M).1.o,KV B id (toReg B P N fY M).1.s,(toReg B P N fY M).2.map Prod.fst,(LU id (toReg B P N fY M).1).2.map Prod.fst)=(true,true,(toReg B P N fY M).2.map Prod.snd,(LU id (toReg B P N fY M).1).2.map Prod.snd):=by kernel_rfl):RT B P N ρ Q M:=by
 simp only[Prod.mk.injEq]at hx;obtain⟨h1,h2,h3,h4⟩:=hx;exact⟨kW (dW h3) (UG h1 h2 (dW h4) k.v)⟩
end
theorem vI{α:Type}{b:α}: ∀{h:List (Nat×α)}{i:Nat},bn h i=some b->dM h i b=h
 | [],i,e=>by simp[df]at e
 |(k,x)::r,i,e=>by
  simp only[cG]at e;unfold dM;rw[L5];split at e
  ·rename_i hk;subst hk;cases e;simp
  ·rename_i hk;rw[fN hk,vI e]
theorem zh{B:iU}{i:Nat}{b b0:TB B.S}: ∀{h:List (Nat×TB B.S)},bn h i=some b0->eP B i b0=eP B i b->mN B (dM h i b)=mN B h
 | [],hg,_=>by simp[df]at hg
 |(k,z)::r,hg,e=>by
  simp only[cG]at hg;simp only[tz];split
  ·rename_i hk;rw[ez hk]at hg;cases hg;subst hk;simp only[mN,e]
  ·rename_i hk;rw[fN hk]at hg;simp only[mN,zh hg e]
def Rb(B:iU)(id:Nat)(b:TB B.S)(M:TM B.S):TM B.S:=⟨M.o,M.k,M.bf,⟨dM M.s.heap id b,M.s.bN⟩⟩
theorem tB{B:iU}{P:Program}{N:Nat}{ρ:Option Nat}{Q:Exit->Env->St->Prop}{M:TM B.S}(fY id:Nat)(b b':TB B.S)(he:fT B b=fT B b')(k:RT B P N ρ Q (Rb B id b' (toReg B P N fY M).1))(hr:eP B id b=eP B id b':=by rfl)
  (hx:(kD (toReg B P N fY M).1.o,bn (toReg B P N fY M).1.s.heap id,(toReg B P N fY M).2.map Prod.fst)=(true,some b,(toReg B P N fY M).2.map Prod.snd):=by kernel_rfl):RT B P N ρ Q M:=by
 simp only[Prod.mk.injEq]at hx;obtain⟨h1,h2,h3⟩:=hx;refine⟨kW (dW h3) ?_⟩;have k:=k.v;unfold Rb at k;revert h1 h2 k;show _->_->_->kU B P N ρ Q (toReg B P N fY M).1;generalize(toReg B P N fY M).1=g;intro h1 h2 k;obtain⟨o,kk,bf,s⟩:=g;have e:db B ⟨dM s.heap id b',s.bN⟩=db B s:=by
  simp only[db,CE,<-he,zh h2 hr]
  grind [vI,gv]
 cases o<;>simp only[kD]at h1<;>first|(cases h1;done)|skip
 ·have k:vE P N ρ Q ⟨.run _,kk,eI B bf,db B ⟨dM s.heap id b',s.bN⟩⟩:=k;rw[e]at k;exact k
 ·have k:vE P N ρ Q ⟨.out _,kk,eI B bf,db B ⟨dM s.heap id b',s.bN⟩⟩:=k;rw[e]at k;exact k
def XA(B:iU)(t:Nat)(v:TV B.S)(M:TM B.S):TM B.S:=⟨M.o,M.k,dM M.bf t v,M.s⟩
theorem tE{B:iU}{P:Program}{N:Nat}{ρ:Option Nat}{Q:Exit->Env->St->Prop}{M:TM B.S}(fY t:Nat)(v v':TV B.S)(he:v.er B.E=v'.er B.E)(k:RT B P N ρ Q (XA B t v' (toReg B P N fY M).1))
  (hx:(kD (toReg B P N fY M).1.o,bn (toReg B P N fY M).1.bf t,(toReg B P N fY M).2.map Prod.fst)=(true,some v,(toReg B P N fY M).2.map Prod.snd):=by kernel_rfl):RT B P N ρ Q M:=by
 simp only[Prod.mk.injEq]at hx;obtain⟨h1,h2,h3⟩:=hx;refine⟨kW (dW h3) ?_⟩;have k:=k.v;unfold XA at k;revert h1 h2 k;show _->_->_->kU B P N ρ Q (toReg B P N fY M).1;generalize(toReg B P N fY M).1=g;intro h1 h2 k;obtain⟨o,kk,bf,s⟩:=g;have e:eI B (dM bf t v')=eI B bf:=by
  grind [xw,vI,lR]
 grind [kU.bf]
section
variable {B:iU} {m c n:Nat} {x:List (B.S c)}
end
theorem oR{B:iU}{P:Program}{N:Nat}{ρ:Option Nat}{Q:Exit->Env->St->Prop}{M:TM B.S}{β:Type}{r:β}{p:Prop}[Decidable p]{x:Option β}(h:bZ p x=some r)(k:p->x=some r->RT B P N ρ Q M):RT B P N ρ Q M:=k (MZ h).1 (MZ h).2
theorem V8{B:iU}{P:Program}{N:Nat}{ρ:Option Nat}{Q:Exit->Env->St->Prop}{M:TM B.S}{α β:Type}{r:β}{o:Option α}{K:α->Option β}(h:o.bind K=some r)(k: ∀a,o=some a->K a=some r->RT B P N ρ Q M):RT B P N ρ Q M:=
 let⟨a,ha,hK⟩:=lY h
 k a ha hK
section
variable {B:iU} {P:Program} {N:Nat} {ρ:Option Nat} {Q:Exit->Env->St->Prop} {M:TM B.S}
def Bx(M:TM B.S)(cZ ids:List Nat)(bN:Nat)(U:dB B.S×List (Nat×TB B.S)):TM B.S:=⟨M.o,M.k,U.1++l7 cZ M.bf,⟨U.2++ln ids M.s.heap,bN⟩⟩
theorem tV(fY:Nat)(cZ ids:List Nat)(bN:Nat)(U:dB B.S×List (Nat×TB B.S))(k:RT B P N ρ Q (Bx (toReg B P N fY M).1 cZ ids bN U))
  (hx:(kD (toReg B P N fY M).1.o,(toReg B P N fY M).2.map Prod.fst,(AK B ρ (toReg B P N fY M).1.s.bN (Bx (toReg B P N fY M).1 cZ ids bN U).bf (Bx (toReg B P N fY M).1 cZ ids bN U).s (toReg B P N fY M).1).map Prod.fst)=
   (true,(toReg B P N fY M).2.map Prod.snd,(AK B ρ (toReg B P N fY M).1.s.bN (Bx (toReg B P N fY M).1 cZ ids bN U).bf (Bx (toReg B P N fY M).1 cZ ids bN U).s (toReg B P N fY M).1).map Prod.snd):=by kernel_rfl):RT B P N ρ Q M:=by
 simp only[Prod.mk.injEq]at hx;obtain⟨h1,h2,h3⟩:=hx;refine⟨kW (dW h2) ?_⟩;obtain⟨AE,L,hI⟩:=xz (dW h3);have k:=k.v;unfold Bx at k hI;show kU B P N ρ Q (toReg B P N fY M).1;generalize(toReg B P N fY M).1=g at *;obtain⟨o,kk,bf,s⟩:=g;have ho:kD o=true:=h1;exact I4 ho AE (fw _) hI k
end
section
variable {P:Program}
theorem Bz{G:bS}{s0:St}{w w':World}{e:Ending}{K:AV->St->Prop}(hs:eG G s0 w)
  (h:wZ G s0 w (λy s=> ∃s1 y1 bG π S2 x2,s0.bN<=bG/\pe s y s1 y1/\pN bG π S2 s1/\Co (fU bG S2.heap) π x2 y1/\K x2 S2) e w'):wZ G s0 w K e w':=by
 obtain⟨v,G',y,s',rfl,hV,hS,hE,s1,y1,bG,π,S2,x2,hb,ht,hi,hc,hk⟩:=h;obtain⟨G1,h1,h2,h3⟩:=ht G' w' v hS hV;have hE1:=hE.trans hs h2;exact⟨v,_,x2,S2,rfl,hc.V Bh h3,hi.toIntoM.iB h1,hi.ext hs hE1 h1 hb,hk⟩
theorem EF{f:FuncId}{args:List AV}{s0:St}{K:AV->St->Prop}
  (h:dw P f args s0 λy s=> ∃s1 y1 bG π S2 x2,s0.bN<=bG/\pe s y s1 y1/\pN bG π S2 s1/\Co (fU bG S2.heap) π x2 y1/\K x2 S2):dw P f args s0 K:=λG w vs hs hv=>
 (h G w vs hs hv).mono λ_ _ hg=>Bz hs hg
theorem EG{id:Nat}{args:List AV}{s0:St}{K:AV->St->Prop}
  (h:ic P id args s0 λy s=> ∃s1 y1 bG π S2 x2,s0.bN<=bG/\pe s y s1 y1/\pN bG π S2 s1/\Co (fU bG S2.heap) π x2 y1/\K x2 S2):ic P id args s0 K:=λo G w r vs hs ho hv=>by
 obtain⟨fn,tmps,assign,body,h1,h2⟩:=h o G w r vs hs ho hv;exact⟨fn,tmps,assign,body,h1,h2.mono λ_ _ hg=>Bz hs hg⟩
end
section
variable {B:iU} {P:Program} {N:Nat} {ρ:Option Nat} {Q:Exit->Env->St->Prop} {M:TM B.S} {α β:Type} {r:β}
def cI(B:iU)(P:Program)(f:FuncId)(args:List (TV B.S))(H0:dH B.S)(X:α->TV B.S)(H1:α->dH B.S)(a:α):Prop:=
 dw P f (dY B.E args) (db B H0) λy t=>y=(X a).er B.E/\t=db B (H1 a)
def KH(B:iU)(bG:Nat)(X:α->TV B.S)(H1:α->dH B.S)(a:α):AV->St->Prop:=λy s=> ∃s1 y1 zi π,bG<=zi/\pe s y s1 y1/\pN zi π (db B (H1 a)) s1/\Co (fU zi (db B (H1 a)).heap) π ((X a).er B.E) y1
theorem gA{f:FuncId}{args:List (TV B.S)}{H0:dH B.S}{X:α->TV B.S}{H1:α->dH B.S}{a:α}(h:RT B P (nF P f) none (DP P (rF P f).toArray (KH B H0.bN X H1 a)) ⟨.run (cF P f),[],KS args 0,H0⟩)
  (hx:((Bv P f).isSome&&Nat.ble args.length (nF P f)&&KU B H0.heap)=true:=by kernel_rfl):cI B P f args H0 X H1 a:=by
 simp only[eU]at hx;obtain⟨⟨h1,h2⟩,h3⟩:=hx;have h:=h.v;obtain⟨⟨n,rs,c⟩,hb⟩:=Ar.1 h1;have e1:nF P f=n:=by simp[nF,hb]
 have e2:rF P f=rs:=by simp[rF,hb]
 have e3:cF P f=c:=by simp[cF,hb]
 rw[e1,e2,e3]at h;rw[e1]at h2;refine EF ?_;refine(IH (s:=db B H0) n rs c _ hb CT.symm (by rw[iw];exact h2) (xC h3) h).mono ?_;rintro y s ⟨s1,y1,zi,π,k1,k2,k3,k4⟩;exact⟨s1,y1,zi,π,_,_,k1,k2,k3,k4,rfl,rfl⟩
def UI(B:iU)(P:Program)(fz:Bool)(bG:Nat)(rs:List ResultVar)(x:TV B.S)(S2:dH B.S)(M:TM B.S):Option iV:=match M.o with
 |.out e=>(match M.k with
  | []=>bif (match e with|.ret=>true|.normal=>true|_=>false)&&Bw B M.s then(match N3 B P M.bf M.s rs with
   |some l=>(match(bif fz then Ez (match l with| [x]=>x|l=>.dS l) (Ge M.s)else((match l with| [x]=>x|l=>.dS l),Ge M.s,[]))with
    |(y,s1,q)=>bif !fz||y.cl then(match NX B bG (N1 bG [(0,x)] S2 [(0,y)] s1) [(0,x)] S2 [(0,y)] s1 with
     |some q2=>some (q++q2)
     |none=>none)else none)
   |none=>none)else none
  |_=>none)
 |_=>none
def wJ(o:Option iV):iV:=match o with
 |some q=>q
 |none=>[(.any,.jN)]
theorem zl{o:Option iV}(h: ∀p∈wJ o,p.1=p.2): ∃q,o=some q/\ ∀p∈q,p.1=p.2:=by
 cases o with
 |none=>have:=h (.any,.jN) (by simp[wJ]);cases this
 |some q=>exact⟨q,rfl,h⟩
theorem cp{rs:List ResultVar}{bG:Nat}{X:α->TV B.S}{H1:α->dH B.S}{x a:α}(fz:Bool)(h:some x=some a)(hx:((wJ (UI B P fz bG rs (X x) (H1 x) (G B P N M).1)).map Prod.fst,(G B P N M).2.map Prod.fst)=
   ((wJ (UI B P fz bG rs (X x) (H1 x) (G B P N M).1)).map Prod.snd,(G B P N M).2.map Prod.snd):=by kernel_rfl):RT B P N none (DP P rs.toArray (KH B bG X H1 a)) M:=by
 cases h;simp only[Prod.mk.injEq]at hx;obtain⟨h2,h3⟩:=hx;refine sd h3 ⟨?_⟩;obtain⟨q,hr,hq⟩:=zl (dW h2);generalize(G B P N M).1=g at *;obtain⟨o,k,bf,s⟩:=g;unfold UI at hr;split at hr
 ·rename_i e ho;simp only at ho;subst ho;split at hr
  ·rename_i hk;simp only at hk;subst hk;generalize hq0:(match e with|.ret=>true|.normal=>true|_=>false)=b0 at hr;cases hb:(b0&&Bw B s)with
   |false=>grind
   |true=>
    simp only[hb,cP]at hr;simp only[eU]at hb;have he:e=.ret\/e=.normal:=by
     grind
    split at hr
    ·rename_i l hl;have hl:=CV hl;generalize hy:(match l with| [x]=>x|l=>TV.dS l)=y0 at hr;have Hr:kO P rs.toArray (eI B bf) (db B s)=some (y0.er B.E):=by
      unfold kO;simp only[hl];subst hy;cases l with
      |nil=>rfl
      |cons x r=>cases r<;>rfl
     generalize hz:(bif fz then Ez y0 (Ge s)else(y0,Ge s,[]))=z at hr;obtain⟨y,s1,q1⟩:=z;simp only at hr;cases hc:(!fz||y.cl)with
     |false=>grind
     |true=>
      simp only[hc,cP]at hr;split at hr
      ·rename_i q2 h2;cases hr;have hI:=CS h2 (λp hp=>hq p (Gh _ hp));obtain⟨z,LR,KQ⟩:=hI.bf 0 (((X x).er B.E)) (by rfl);have LR:z=y.er B.E:=by simp[eI,cG]at LR;grind
       subst LR;have ht:pe (db B (Ge s)) (y0.er B.E) (db B s1) (y.er B.E):=by
        cases fz with
        |false=>
         simp_all[pe.refl]
        |true=>
         simp only[cP]at hz;simp only[pV,Ie]at hc;have hf:=I6 (B:=B) y0 (Ge s) (by grind) (by rw[hz];exactλp hp=>hq p (Ig _ hp))
         grind [yn]
       have EE:Gw (db B (Ge s)) (db B s):=ED hb.2;have hK:KH B bG X H1 x (y0.er B.E) (db B (Ge s)):=⟨_,_,bG,_,fw _,ht,hI.st,KQ⟩;rcases he with rfl|rfl
       ·exactλG w a hn=>hn.after ⟨_,_,Hr,EE,hK⟩
       ·exactλG w a hn=>hn.after ⟨_,_,Hr,EE,hK⟩
      ·cases hr
    ·cases hr
  ·cases hr
 ·cases hr
section
variable {S:Nat->Type}
def KW(f:TV S->TV S):List (TV S)->List (TV S)
 | []=>[]
 |x::r=>f x::KW f r
def EH(L:List (Nat×Nat)):Nat->TV S->TV S
 |0,x=>x
 |n+1,x=>match x with
  |.a y=>(match y with
   |.mp i e o=>.a (.mp (pi L i) e o)
   |.ms i a b=>.a (.ms (pi L i) a b)
   |.kK i=>.a (.kK (pi L i))
   |_=>x)
  |.pt i a b=>.pt (pi L i) a b
  |.fn g cs=>.fn g (KW (EH L n) cs)
  |.agg cs=>.agg (KW (EH L n) cs)
  |.dS cs=>.dS (KW (EH L n) cs)
  |x=>x
def Sy(f:TV S->TV S):List (Nat×TV S)->List (Nat×TV S)
 | []=>[]
 |(i,x)::r=>(i,f x)::Sy f r
def aaR(L:List (Nat×Nat))(b:TB S):TB S:=match b with
 |.cu n l=>.cu n (KW (EH L 4) l)
 |.lp c bf st pd=>.lp c (Sy (EH L 4) bf) st pd
 |.fm n c w cl pre lA post=>.fm n c (pi L w) cl pre (KW (EH L 4) lA) post
 |b=>b
def XB(L:List (Nat×Nat)):List (Nat×TB S)->List (Nat×TB S)
 | []=>[]
 |(i,b)::r=>(pi L i,aaR L b)::XB L r
def zm(L:List (Nat×Nat)):List (Nat×TB S)->List (Nat×TB S)
 | []=>[]
 |p::r=>bif (bn L p.1).isSome then p::zm L r else zm L r
def prA(cn args:List (TV S))(H0 s:dH S):List (Nat×Nat):=
 match PM (PN s.bN 4) cn args with
 |l0=>match l0++Su s.bN false l0 s.heap (zm l0 H0.heap)with
  |l1=>match l1++Su s.bN false l1 s.heap (zm l1 H0.heap)with
   |l2=>match l2++Su s.bN false l2 s.heap (zm l2 H0.heap)with
    |l3=>match l3++Su s.bN false l3 s.heap (zm l3 H0.heap)with
     |l4=>l4++Su s.bN true l4 s.heap (zm l4 H0.heap)
def UJ(c0 bN:Nat)(L:List (Nat×Nat)):List (Nat×TB S)->List (Nat×Nat)
 | []=>[]
 |(i,_)::r=>bif (bn L i).isSome then UJ c0 bN L r else(i,bN+(i-c0))::UJ c0 bN L r
def uv(h:List (Nat×TB S))(L:List (Nat×Nat)):List (Nat×Nat):=match h with
 | []=>[]
 |(i,_)::r=>(pi L i,i)::uv r L
def N5(ids:List Nat):List (Nat×TB S)->List Nat
 | []=>[]
 |(i,_)::r=>bif jH i ids then N5 ids r else i::N5 ids r
def CZ(P:Program)(op:Op)(bf:dB S):Option (FuncId×List (TV S)):=match fW op with
 |some (f,a)=>match fp bf f with
  |some (.fn g fi)=>match nU bf a with
   |some l=>bif enters P g then some (g,l++fi)else none
   |none=>none
  |_=>none
 |none=>none
end
section
variable (B:iU) (P:Program)
def Rc(hp:PL B.S)(ok:Nat->Bool)(π:Nat->Nat)(s:dH B.S):List (Nat×TB B.S)->Option iV
 | []=>some []
 |(id,b)::r=>se (match bn s.heap (π id)with
  |some b'=>zb B hp ok π b b'
  |none=>none) (Rc hp ok π s r)
def Re(hp:PL B.S)(ok:Nat->Bool)(σ:Nat->Nat)(H1:dH B.S):List (Nat×TB B.S)->Option iV
 | []=>some []
 |(id,b)::r=>se (match bn H1.heap (σ id)with
  |some b'=>zb B hp ok σ b b'
  |none=>none) (Re hp ok σ H1 r)
def I8{S:Nat->Type}(rest:List (Nat×TB S))(id:Nat):Bool:=jH id (rest.map (·.1))||rest.any λp=>gi p.2&&!(fV p.1 id)
def EI(Lp Ls:List (Nat×Nat))(H0 H1 s:dH B.S)(kh rest:List (Nat×TB B.S))(bN:Nat):Bool:=
 H0.heap.all (λp=>Nat.blt p.1 H0.bN&&(!(gi p.2)||Nat.blt (pi Lp p.1) s.bN)&&H0.heap.all λq=>Nat.beq p.1 q.1||!(Nat.beq (pi Lp p.1) (pi Lp q.1)))&&
 kh.all (λp=>Nat.blt p.1 bN&&!(jH p.1 (rest.map (·.1)))&&(!(gi p.2)||Nat.blt (pi Ls p.1) H1.bN)&&(Nat.ble s.bN p.1||((bn H0.heap (pi Ls p.1)).isSome&&Nat.beq (pi Lp (pi Ls p.1)) p.1))&&kh.all λq=>Nat.beq p.1 q.1||!(Nat.beq (pi Ls p.1) (pi Ls q.1)))&&
 rest.all (λp=>Nat.blt p.1 bN&&H0.heap.all λq=>!(Nat.beq (pi Lp q.1) p.1))&&
 Nat.ble s.bN bN&&ub (kS B s.heap) (kS B (kh++rest))&&
 (pP H0.heap&&pP H1.heap&&pP s.heap&&pP (kh++rest)&&Bs bN (kh++rest)&&Bs H0.bN H0.heap)
def Rf(Ls:List (Nat×Nat))(H0 H1:dH B.S)(n:Nat):List (Nat×TB B.S)->Option iV
 | []=>some []
 |(id,b)::r=>se (bif gi b&&Nat.blt id n then(match bn H1.heap (pi Ls id)with
  |some b1=>(match bn H0.heap (pi Ls id)with
   |some b0=>zb B ([],[]) (λ_=>true) (pi []) b1 b0
   |none=>none)
  |none=>none)else some []) (Rf Ls H0 H1 n r)
def py(Lp Lr:List (Nat×Nat))(kh rest:List (Nat×TB B.S))(cn:List (TV B.S))(H0:dH B.S)(x:TV B.S)(H1:dH B.S)(args:List (TV B.S))(s:dH B.S):TV B.S×dH B.S×iV:=
 (EH Lr 4 x,⟨kh++rest,s.bN+(H1.bN-H0.bN)⟩,match(bif EI B Lp (uv H1.heap Lr) H0 H1 s kh rest (s.bN+(H1.bN-H0.bN))then
   se (LS (Hn B (H0.heap,s.heap) (fU 0 (db B H0).heap) (pw Lp (jI Lp s.bN H0.heap)) 4) cn args) (se (Hn B (kh,H1.heap) (okF (I8 rest) (db B ⟨kh++rest,s.bN+(H1.bN-H0.bN)⟩).heap) (pw (uv H1.heap Lr) (jI (uv H1.heap Lr) H1.bN kh)) 4 (EH Lr 4 x) x) (se (Rc B (H0.heap,s.heap) (fU 0 (db B H0).heap) (pw Lp (jI Lp s.bN H0.heap)) s H0.heap)
    (se (Re B (kh,H1.heap) (okF (I8 rest) (db B ⟨kh++rest,s.bN+(H1.bN-H0.bN)⟩).heap) (pw (uv H1.heap Lr) (jI (uv H1.heap Lr) H1.bN kh)) H1 kh) (Rf B (uv H1.heap Lr) H0 H1 s.bN kh))))else none)with
  |some q=>q
  |none=>[(.any,.jN)])
def eQ(cn:List (TV B.S))(H0:dH B.S)(x:TV B.S)(H1:dH B.S)(args:List (TV B.S))(s:dH B.S):TV B.S×dH B.S×iV:=
 match prA cn args H0 s with
 |Lp=>match Lp++UJ H0.bN s.bN Lp H1.heap with
  |Lr=>py B Lp Lr (XB Lr H1.heap) (ln (N5 (H0.heap.map λp=>pi Lp p.1) s.heap) s.heap) cn H0 x H1 args s
end
theorem zn{hp:PL B.S}{ok:Nat->Bool}{π:Nat->Nat}{s:dH B.S}: ∀{h:List (Nat×TB B.S)}{q:iV},Rc B hp ok π s h=some q->(∀p∈q,p.1=p.2)-> ∀{id:Nat}{b:TB B.S},bn h id=some b-> ∃b' q',bn s.heap (π id)=some b'/\zb B hp ok π b b'=some q'/\ ∀p∈q',p.1=p.2
 | [],_,_,_,id,_,hg=>by simp[df]at hg
 |(k,b0)::r,q,h,hq,id,b,hg=>by
  obtain⟨⟨q1,h1,e1⟩,q2,h2,e2⟩:=gp h hq;simp only[cG]at hg;split at hg
  ·rename_i e;cases hg;subst e;split at h1
   ·rename_i b' hb;exact⟨b',_,hb,h1,e1⟩
   ·cases h1
  ·exact zn h2 e2 hg
theorem qI{hp:PL B.S}{ok:Nat->Bool}{σ:Nat->Nat}{H1:dH B.S}: ∀{h:List (Nat×TB B.S)}{q:iV},Re B hp ok σ H1 h=some q->(∀p∈q,p.1=p.2)-> ∀{id:Nat}{b:TB B.S},bn h id=some b-> ∃b' q',bn H1.heap (σ id)=some b'/\zb B hp ok σ b b'=some q'/\ ∀p∈q',p.1=p.2
 | [],_,_,_,id,_,hg=>by simp[df]at hg
 |(k,b0)::r,q,h,hq,id,b,hg=>by
  obtain⟨⟨q1,h1,e1⟩,q2,h2,e2⟩:=gp h hq;simp only[cG]at hg;split at hg
  ·rename_i e;cases hg;subst e;split at h1
   ·rename_i b' hb;exact⟨b',_,hb,h1,e1⟩
   ·cases h1
  ·exact qI h2 e2 hg
theorem EJ{Ls:List (Nat×Nat)}{H0 H1:dH B.S}{n:Nat}: ∀{h:List (Nat×TB B.S)}{q:iV},Rf B Ls H0 H1 n h=some q->(∀p∈q,p.1=p.2)-> ∀{id:Nat}{b:TB B.S},bn h id=some b->gi b=true->id<n-> ∃b1 b0 q',bn H1.heap (pi Ls id)=some b1/\bn H0.heap (pi Ls id)=some b0/\zb B ([],[]) (λ_=>true) (pi []) b1 b0=some q'/\ ∀p∈q',p.1=p.2
 | [],_,_,_,id,_,hg,_,_=>by simp[df]at hg
 |(k,c)::r,q,h,hq,id,b,hg,hf,hn=>by
  obtain⟨⟨q1,h1,e1⟩,q2,h2,e2⟩:=gp h hq;simp only[cG]at hg;split at hg
  ·rename_i e;cases hg;subst e;simp only[hf,KJ hn,Bool.and_true,cP]at h1
   grind
  ·exact EJ h2 e2 hg hf hn
theorem I9{x:Nat}{l:List Nat}(h:x∈l):jH x l=true:=by
 unfold jH;simp_all
theorem XC{rest:List (Nat×TB B.S)}{id:Nat}{b:TB B.S}(h:bn rest id=some b):jH id (rest.map (·.1))=true:=I9 (mS.2 ⟨(id,b),kR h,rfl⟩)
theorem Hs{a b:List (Nat×TB B.S)}:kS B (a++b)=kS B a++kS B b:=by
 induction a with
 |nil=>rfl
 |cons p r ih=>obtain⟨i,x⟩:=p;simp only[Al,kS,ih]
theorem jQ{h:List (Nat×TB B.S)}{id:Nat}{b:TB B.S}: ∀{ks:List Nat},bn (ln ks h) id=some b->bn h id=some b
 | [],hg=>by simp[ln,df]at hg
 |k::r,hg=>by
  unfold ln at hg;split at hg
  ·rename_i c hc;simp only[cG]at hg;split at hg
   ·rename_i e;cases hg;subst e;exact hc
   ·exact jQ hg
  ·exact jQ hg
section
variable {Lp Ls:List (Nat×Nat)} {H0 H1 s:dH B.S} {kh rest:List (Nat×TB B.S)} {bN:Nat} {ks:List Nat}
theorem Ja(wu:rest=ln ks s.heap)(hb:EI B Lp Ls H0 H1 s kh rest bN=true){q1 q2 q3:iV}
  (h1:Rc B (H0.heap,s.heap) (fU 0 (db B H0).heap) (pw Lp (jI Lp s.bN H0.heap)) s H0.heap=some q1) (e1: ∀p∈q1,p.1=p.2)
  (h2:Re B (kh,H1.heap) (okF (I8 rest) (db B ⟨kh++rest,bN⟩).heap) (pw Ls (jI Ls H1.bN kh)) H1 kh=some q2) (e2: ∀p∈q2,p.1=p.2)
  (h3:Rf B Ls H0 H1 s.bN kh=some q3) (e3: ∀p∈q3,p.1=p.2):
  Fits (pw Lp (jI Lp s.bN H0.heap)) (pw Ls (jI Ls H1.bN kh)) (I8 rest) (db B H0) (db B H1) (db B s) (db B ⟨kh++rest,bN⟩):=by
 simp only[EI,eU]at hb;obtain⟨⟨⟨⟨⟨b1,b2⟩,b3⟩,b4⟩,b5⟩,⟨⟨⟨⟨w0,w1⟩,w2⟩,w3⟩,w4⟩,w5⟩:=hb;have b4:=vd b4;have k0: ∀{id b},bn H0.heap id=some b->id<H0.bN/\(gi b=true->pi Lp id<s.bN)/\(∀{fq b'},bn H0.heap fq=some b'->pi Lp id=pi Lp fq->id=fq)/\ ∃b',bn s.heap (pi Lp id)=some b'/\(gi b=true->b'=b):=λ{id b}hg=>by
  have:=dR b1 hg;simp only[eU,tv,vm,sr]at this;obtain⟨⟨c1,c2⟩,c3⟩:=this;refine⟨c1,λhf=>?_,λ{fq b'}mL e=>?_,?_⟩
  ·rcases c2 with h|h
   ·rw[hf]at h;cases h
   ·exact h
  ·have:=dR c3 mL;simp only[vm,sr]at this;rcases this with h|h
   ·exact jU h
   ·exact absurd e (AH h)
  ·obtain⟨b',q',g1,g2,g3⟩:=zn h1 e1 hg;rw[mB w0 hg]at g1;refine⟨b',g1,λhf=>?_⟩;obtain⟨c,cl,pre,n,post,rfl⟩:=l6 hf;exact xy g2 g3
 have KY: ∀{w b id x},bn H0.heap w=some b->bn (eP B w b) id=some x->pw Lp (jI Lp s.bN H0.heap) id=pi Lp w+(id-w)/\fV w id=false/\gi b=true:=λ{w b id x}hg hx=>by
  obtain⟨f1,f2⟩:=fc hx;exact⟨Hl w0 hg f1 ((k0 hg).2.1 f1) f2,f2,f1⟩
 have XD:yZ B H0.heap (fU 0 (db B H0).heap) (pw Lp (jI Lp s.bN H0.heap)):=λw b hg id x hx=>⟨qx (js w0 hg hx),by rw[(KY hg hx).1,mB w0 hg]⟩;have Zt: ∀{i x},bn (db B H0).heap i=some x->(∃b b',bn H0.heap i=some b/\pw Lp (jI Lp s.bN H0.heap) i=pi Lp i/\bn s.heap (pi Lp i)=some b')\/(∃w b,bn H0.heap w=some b/\gi b=true/\bn (eP B w b) i=some x/\pw Lp (jI Lp s.bN H0.heap) i=pi Lp w+(i-w)/\bn s.heap (pi Lp w)=some b/\fV (pi Lp w) (pi Lp w+(i-w))=false):=λ{i x}hx=>by
  rcases ie w0 hx with⟨b,hg,rfl⟩|⟨_,w,b,hg,hr⟩
  ·obtain⟨_,_,_,b',g1,_⟩:=k0 hg;exact .inl ⟨b,b',hg,mB w0 hg,g1⟩
  ·obtain⟨r1,r2,r3⟩:=KY hg hr;obtain⟨_,_,_,b',g1,g2⟩:=k0 hg;have:=g2 r3;subst this;obtain⟨o1,o2⟩:=fB r2;exact .inr ⟨w,_,hg,r3,hr,r1,g1,lT (by omega) (by omega)⟩
 have kd: ∀{id b},bn kh id=some b->id<bN/\bn rest id=none/\(gi b=true->pi Ls id<H1.bN)/\(id<s.bN->(∃b0,bn H0.heap (pi Ls id)=some b0)/\pi Lp (pi Ls id)=id)/\ ∀{fq b'},bn kh fq=some b'->pi Ls id=pi Ls fq->id=fq:=λ{id b}hg=>by
  have:=dR b2 hg;simp only[eU,tv,vm,sr,Gg]at this;obtain⟨⟨⟨⟨c1,c2⟩,c3⟩,c4⟩,c5⟩:=this;refine⟨c1,?_,λhf=>?_,λhl=>?_,λ{fq b'}mL e=>?_⟩
  ·cases hr:bn rest id with
   |none=>rfl
   |some x=>rw[XC hr]at c2;cases c2
  ·rcases c3 with h|h
   ·rw[hf]at h;cases h
   ·exact h
  ·rcases c4 with h|h
   ·omega
   ·exact⟨Ar.1 h.1,jU h.2⟩
  ·have:=dR c5 mL;simp only[vm,sr]at this;rcases this with h|h
   ·exact jU h
   ·exact absurd e (AH h)
 have Jb: ∀{id b},bn kh id=some b->bn (kh++rest) id=some b:=λhg=>by rw[cX,hg]
 have wd:pP kh=true:=by
  have: ∀{a b:List (Nat×TB B.S)},pP (a++b)=true->pP a=true:=by
   intro a
   induction a with
   |nil=>intro b _;rfl
   |cons p r ih=>
    intro b h;obtain⟨k,x⟩:=p;simp only[Al,pP,List.all_append,eU]at h |-
    exact⟨h.1.1,ih h.2⟩
  exact this w3
 have sU: ∀{id x},bn (db B ⟨kh++rest,bN⟩).heap id=some x->(∃b,bn kh id=some b/\x=fT B b/\I8 rest id=false)\/(∃b,bn rest id=some b/\x=fT B b/\I8 rest id=true)\/
   (∃w b,bn kh w=some b/\gi b=true/\fV w id=false/\bn (eP B w b) id=some x/\I8 rest id=false)\/(∃w b,bn rest w=some b/\gi b=true/\fV w id=false/\bn (eP B w b) id=some x/\I8 rest id=true):=λ{id x}hx=>by
  have frF:(bn rest id=none)->(∀w b,bn (kh++rest) w=some b->gi b=true->fV w id=false->bn rest w=none)->(∀p∈rest,gi p.2=true->fV p.1 id=true)->I8 rest id=false:=λh1 _ h3=>by
   unfold I8;rw[J3];constructor
   ·cases hm:jH id (rest.map (·.1))with
    |false=>rfl
    |true=>
     exfalso;unfold jH at hm;obtain⟨y,hy,hb⟩:=F5.1 hm;have:=jU hb;subst this;obtain⟨p,hp,e⟩:=mS.1 hy;have: ∀{l:List (Nat×TB B.S)}{k:Nat},(∃p∈l,p.1=k)->bn l k≠none:=by
      intro l
      induction l with
      |nil=>rintro k ⟨p,hp,_⟩;simp at hp
      |cons a r ih=>
       rintro k ⟨p,hp,e⟩;obtain⟨i,z⟩:=a;simp only[cG];split
       ·simp
       ·rename_i fG;simp only[pU]at hp;rcases hp with rfl|hp
        ·exact absurd e fG
        ·exact ih ⟨p,hp,e⟩
     exact this ⟨p,hp,e⟩ h1
   ·cases hm:rest.any λp=>gi p.2&&!(fV p.1 id)with
    |false=>rfl
    |true=>
     exfalso;obtain⟨p,hp,hb⟩:=F5.1 hm;simp only[eU,sr]at hb;rw[h3 p hp hb.1]at hb;cases hb.2
  have frR: ∀p∈rest,gi p.2=true->bn (kh++rest) p.1=some p.2:=λp hp hf=>by
   have: ∀{a b:List (Nat×TB B.S)},pP (a++b)=true-> ∀p∈b,gi p.2=true->bn (a++b) p.1=some p.2:=by
    intro a
    induction a with
    |nil=>
     intro b
     induction b with
     |nil=>intro _ p hp;simp at hp
     |cons x r ih=>
      intro h p hp hf;obtain⟨k,z⟩:=x;simp only[xm,pP,eU]at h;simp only[pU]at hp;simp only[xm,cG];rcases hp with rfl|hp
      ·simp
      ·have:=qc.1 h.1 p hp;simp only[mz,hf,cP,eU,sr]at this;rw[fN (AH this.2.2)];exact ih (by simpa using h.2) p hp hf
    |cons x r ih=>
     intro b h p hp hf;obtain⟨k,z⟩:=x;simp only[Al,pP,eU]at h;simp only[Al,cG];have:=qc.1 h.1 p (Gh _ hp);simp only[mz,hf,cP,eU,sr]at this;rw[fN (AH this.2.2)];exact ih h.2 p hp hf
   exact this w3 p hp hf
  rcases ie (s:=⟨kh++rest,bN⟩) w3 hx with⟨b,hg,rfl⟩|⟨hn,w,b,hg,hr⟩
  ·have As: ∀p∈rest,gi p.2=true->fV p.1 id=true:=λp hp hf=>iO w3 (frR p hp hf) hg hf;have mL:=hg;simp only at mL;rw[cX]at mL;split at mL
   ·rename_i y hy;cases mL;exact .inl ⟨_,hy,rfl,frF (kd hy).2.1 (λw b' h1 h2 h3=>by rw[iO w3 h1 hg h2]at h3;cases h3) As⟩
   ·exact .inr (.inl ⟨_,mL,rfl,by unfold I8;rw[XC mL];rfl⟩)
  ·obtain⟨f1,f2⟩:=fc hr;have mL:=hg;simp only at mL hn;rw[cX]at mL;split at mL
   ·rename_i y hy;cases mL;refine .inr (.inr (.inl ⟨w,_,hy,f1,f2,hr,frF ?_ (λw' b' h1 h2 h3=>?_) λp hp hf=>?_⟩))
    ·rw[cX]at hn;split at hn
     ·cases hn
     ·exact hn
    ·have:=mA w3 h1 hg h2 f1 h3 f2;subst this;exact(kd hy).2.1
    ·cases ho:fV p.1 id with
     |true=>rfl
     |false=>
      exfalso;have:=mA w3 (frR p hp hf) hg hf f1 ho f2;have To:=(kd hy).2.1;rw[<-this]at To;have: ∀{l:List (Nat×TB B.S)}{k:Nat},(∃p∈l,p.1=k)->bn l k≠none:=by
       intro l
       induction l with
       |nil=>rintro k ⟨p,hp,_⟩;simp at hp
       |cons a r ih=>
        rintro k ⟨p,hp,e⟩;obtain⟨i,z⟩:=a;simp only[cG];split
        ·simp
        ·rename_i fG;simp only[pU]at hp;rcases hp with rfl|hp
         ·exact absurd e fG
         ·exact ih ⟨p,hp,e⟩
      exact this ⟨p,hp,rfl⟩ To
   ·refine .inr (.inr (.inr ⟨w,_,mL,f1,f2,hr,?_⟩));unfold I8;rw[vm];right;exact F5.2 ⟨_,kR mL,by simp only[f1,f2];rfl⟩
 have N6: ∀{id b},bn kh id=some b->pw Ls (jI Ls H1.bN kh) id=pi Ls id:=λhg=>mB wd hg;have li: ∀{w b id x},bn kh w=some b->bn (eP B w b) id=some x->pw Ls (jI Ls H1.bN kh) id=pi Ls w+(id-w):=λ{w b id x}hg hx=>by
  obtain⟨f1,f2⟩:=fc hx;exact Hl wd hg f1 ((kd hg).2.2.1 f1) f2
 have hF1:yZ B kh (okF (I8 rest) (db B ⟨kh++rest,bN⟩).heap) (pw Ls (jI Ls H1.bN kh)):=λw b hg id x hx=>by
  obtain⟨f1,f2⟩:=fc hx;have vx:=js (s:=⟨kh++rest,bN⟩) w3 (Jb hg) hx;refine⟨?_,by rw[li hg hx,N6 hg]⟩;unfold okF;rw[iG.2 ⟨_,vx⟩,Wq];rcases sU vx with⟨_,_,_,h⟩|⟨b',h,_,_⟩|⟨_,_,_,_,_,_,h⟩|⟨w',b',h,g1,g2,_,_⟩
  ·rw[h];rfl
  ·exfalso;have:=iO (h:=kh++rest) (id:=id) (b':=b') w3 (Jb hg) (by
    rw[cX];cases hq:bn kh id with
    |none=>exact h
    |some z=>rw[(kd hq).2.1]at h;cases h) f1
   rw[this]at f2;cases f2
  ·rw[h];rfl
  ·exfalso;have hw':bn (kh++rest) w'=some b':=by
    rw[cX];cases hq:bn kh w' with
    |none=>exact h
    |some z=>rw[(kd hq).2.1]at h;cases h
   have:=mA w3 hw' (Jb hg) g1 f1 g2 f2;subst this;rw[(kd hg).2.1]at h;cases h
 have hS: ∀{w b id x},bn kh w=some b->bn (eP B w b) id=some x-> ∃x',bn (db B H1).heap (pi Ls w+(id-w))=some x'/\AD (okF (I8 rest) (db B ⟨kh++rest,bN⟩).heap) (pw Ls (jI Ls H1.bN kh)) x x'/\bn H1.heap (pi Ls w)=some b:=λ{w b id x}hg hx=>by
  obtain⟨f1,f2⟩:=fc hx;obtain⟨c,cl,pre,n,post,rfl⟩:=l6 f1;obtain⟨b',q',g1,g2,g3⟩:=qI h2 e2 hg;rw[N6 hg]at g1;have:=xy g2 g3;subst this;obtain⟨x',Aw,hc⟩:=ur (w':=pi Ls w) (λid x hx=>⟨(hF1 w _ hg id x hx).1,li hg hx⟩) id x hx;exact⟨x',js w1 g1 Aw,hc,g1⟩
 refine⟨?_,?_,?_,?_,?_,?_,?_,b4,?_⟩
 ·intro id x hx;rcases ie w0 hx with⟨b,hg,rfl⟩|⟨_,w,b,hg,hr⟩
  ·obtain⟨b',q',g1,g2,g3⟩:=zn h1 e1 hg;exact⟨_,dl g1,CR XD g2 g3⟩
  ·obtain⟨r1,r2,r3⟩:=KY hg hr;obtain⟨_,_,_,b',g1,g2⟩:=k0 hg;have:=g2 r3;subst this;obtain⟨c,cl,pre,n,post,rfl⟩:=l6 r3;obtain⟨x',Aw,hc⟩:=ur (w':=pi Lp w) (λid x hx=>⟨(XD w _ hg id x hx).1,(KY hg hx).1⟩) id x hr;exact⟨x',by rw[r1];exact js w2 g1 Aw,hc⟩
 ·intro id fq x x' hx Aw e;rcases Zt hx with⟨b,b',g1,g2,g3⟩|⟨w,b,g1,f1,g2,g3,g4,g5⟩<;>rcases Zt Aw with⟨b2,b2',g1',Zu,Tx⟩|⟨w',b2,g1',PP,Zu,Tx,g4',g5'⟩
  ·exact(k0 g1).2.2.1 g1' (by rw[<-g2,<-Zu,e])
  ·exfalso;have:=iO w2 g4' g3 PP;rw[<-g2,e,Tx,g5']at this;cases this
  ·exfalso;have:=iO w2 g4 Tx f1;rw[<-Zu,<-e,g3,g5]at this;cases this
  ·have hw:=mA w2 g4 g4' f1 PP g5 (by rw[<-g3,e,Tx];exact g5');have:=(k0 g1).2.2.1 g1' hw;subst this;obtain⟨o1,o2⟩:=fB (fc g2).2;obtain⟨o3,o4⟩:=fB (fc Zu).2;omega
 ·intro id x hx;rcases ie w0 hx with⟨b,hg,rfl⟩|⟨_,w,b,hg,hr⟩
  ·exact(k0 hg).1
  ·obtain⟨_,r2,r3⟩:=KY hg hr;have:=dR w5 hg;simp only[r3,pV,Ie]at this;have:=vd this;obtain⟨o1,o2⟩:=fB r2;show id<H0.bN;omega
 ·intro id x hx hf;rcases sU hx with⟨b,hg,rfl,_⟩|⟨_,_,_,h⟩|⟨w,b,hg,f1,f2,hr,_⟩|⟨_,_,_,_,_,_,h⟩
  ·obtain⟨b',q',g1,g2,g3⟩:=qI h2 e2 hg;refine⟨_,dl g1,CR hF1 g2 g3,λhl=>?_⟩;obtain⟨⟨b0,k1⟩,k2⟩:=(kd hg).2.2.2.1 hl;rw[N6 hg];exact⟨iG.2 ⟨_,dl k1⟩,by rw[mB w0 k1];exact k2⟩
  ·rw[h]at hf;cases hf
  ·obtain⟨x',q1,q2,q3⟩:=hS hg hr;refine⟨x',by rw[li hg hr];exact q1,q2,λhl=>?_⟩;obtain⟨o1,o2⟩:=fB f2;have Gb:w<s.bN:=Nat.lt_trans o1 hl;obtain⟨b1,b0,q',g1,g2,g3,g4⟩:=EJ h3 e3 hg f1 Gb;rw[q3]at g1;cases g1;obtain⟨c,cl,pre,n,post,rfl⟩:=l6 f1;have:=xy g3 g4;subst this;obtain⟨x2,PK,_⟩:=ur (w':=pi Ls w) (ok:=λ_=>true) (π:=λid=>pi Ls w+(id-w)) (λid x hx=>⟨rfl,rfl⟩) id x hr;have k2:=((kd hg).2.2.2.1 Gb).2;rw[li hg hr];refine⟨iG.2 ⟨_,js w0 g2 PK⟩,?_⟩;rw[(KY g2 PK).1,k2];omega
  ·rw[h]at hf;cases hf
 ·intro id x hx hf;rcases sU hx with⟨_,_,_,h⟩|⟨b,hg,rfl,_⟩|⟨_,_,_,_,_,_,h⟩|⟨w,b,hg,f1,f2,hr,_⟩
  ·rw[h]at hf;cases hf
  ·have hs:bn s.heap id=some b:=by subst wu;exact jQ hg
   refine⟨dl hs,λi x' hi e=>?_⟩;rcases Zt hi with⟨b',b2,g1,g2,g3⟩|⟨w',b',g1,PP,g2,g3,g4,g5⟩
   ·have:=dR b3 hg;simp only[eU]at this;have:=dR this.2 g1;simp only[sr]at this;exact AH this (by rw[<-g2,e])
   ·have:=iO w2 g4 hs PP;rw[<-e,g3,g5]at this;cases this
  ·rw[h]at hf;cases hf
  ·have hs:bn s.heap w=some b:=by subst wu;exact jQ hg
   refine⟨js w2 hs hr,λi x' hi e=>?_⟩;rcases Zt hi with⟨b',b2,g1,g2,g3⟩|⟨w',b',g1,PP,g2,g3,g4,g5⟩
   ·have:=iO w2 hs g3 f1;rw[<-g2,e,f2]at this;cases this
   ·have hw:=mA w2 g4 hs PP f1 (by rw[<-g3,e,g3]at *;exact g5) (by exact f2);have:=dR b3 hg;simp only[eU]at this;have:=dR this.2 g1;simp only[sr]at this;exact AH this hw
 ·intro id fq x x' hx Aw hf DJ e;rcases sU hx with⟨b,hg,_,_⟩|⟨_,_,_,h⟩|⟨w,b,hg,f1,f2,hr,_⟩|⟨_,_,_,_,_,_,h⟩
  ·rcases sU Aw with⟨b',mL,_,_⟩|⟨_,_,_,h⟩|⟨w',b',mL,PP,f2',Qz,_⟩|⟨_,_,_,_,_,_,h⟩
   ·exact(kd hg).2.2.2.2 mL (by rw[<-N6 hg,<-N6 mL,e])
   ·rw[h]at DJ;cases DJ
   ·exfalso;obtain⟨y,q1,_,q3⟩:=hS mL Qz;obtain⟨b2,q',g1,_,_⟩:=qI h2 e2 hg;rw[e,li mL Qz]at g1;have:=iO w1 q3 g1 PP;obtain⟨o1,o2⟩:=fB f2';rw[lT (by omega) (by omega)]at this;cases this
   ·rw[h]at DJ;cases DJ
  ·rw[h]at hf;cases hf
  ·rcases sU Aw with⟨b',mL,_,_⟩|⟨_,_,_,h⟩|⟨w',b',mL,PP,f2',Qz,_⟩|⟨_,_,_,_,_,_,h⟩
   ·exfalso;obtain⟨y,q1,_,q3⟩:=hS hg hr;obtain⟨b2,q',g1,_,_⟩:=qI h2 e2 mL;rw[<-e,li hg hr]at g1;have:=iO w1 q3 g1 f1;obtain⟨o1,o2⟩:=fB f2;rw[lT (by omega) (by omega)]at this;cases this
   ·rw[h]at DJ;cases DJ
   ·obtain⟨y,_,_,q3⟩:=hS hg hr;obtain⟨y',_,_,q3'⟩:=hS mL Qz;rw[li hg hr,li mL Qz]at e;obtain⟨o1,o2⟩:=fB f2;obtain⟨o3,o4⟩:=fB f2';have hw:=mA (id:=pi Ls w+(id-w)) w1 q3 q3' f1 PP (lT (by omega) (by omega)) (lT (by omega) (by omega));have:=(kd hg).2.2.2.2 mL hw;subst this;omega
   ·rw[h]at DJ;cases DJ
  ·rw[h]at hf;cases hf
 ·intro id x hx;rcases sU hx with⟨b,hg,_,_⟩|⟨b,hg,_,_⟩|⟨w,b,hg,f1,f2,hr,_⟩|⟨w,b,hg,f1,f2,hr,_⟩
  ·exact(kd hg).1
  ·have:=dR b3 hg;simp only[eU,tv]at this;exact this.1
  ·have:=dR w4 (Jb hg);simp only[f1,pV,Ie]at this;have:=vd this;obtain⟨o1,o2⟩:=fB f2;show id<bN;omega
  ·have mL:bn (kh++rest) w=some b:=by
    rw[cX];cases hq:bn kh w with
    |none=>exact hg
    |some z=>rw[(kd hq).2.1]at hg;cases hg
   have:=dR w4 mL;simp only[f1,pV,Ie]at this;have:=vd this;obtain⟨o1,o2⟩:=fB f2;show id<bN;omega
 ·intro id hd;rcases ie w2 hd with⟨b,hg,hb⟩|⟨hn,w,b,hg,hr⟩
  ·have:=ly b5 id (by rw[gv,hg,iJ,<-hb]);simp only[db];rw[cX,this]
  ·exact(oI hr).elim
end
theorem KZ{f:FuncId}{cn args:List (TV B.S)}{H0 H1 s:dH B.S}{x:TV B.S}{Lp Lr:List (Nat×Nat)}{kh rest:List (Nat×TB B.S)}{ks:List Nat}(wu:rest=ln ks s.heap)
  (h:dw P f (dY B.E cn) (db B H0) λy t=>y=x.er B.E/\t=db B H1)
  (hq: ∀p∈(py B Lp Lr kh rest cn H0 x H1 args s).2.2,p.1=p.2):dw P f (dY B.E args) (db B s) λy t=>y=(py B Lp Lr kh rest cn H0 x H1 args s).1.er B.E/\t=db B (py B Lp Lr kh rest cn H0 x H1 args s).2.1:=by
 unfold py at hq |-
 simp only at hq |-
 cases hb:EI B Lp (uv H1.heap Lr) H0 H1 s kh rest (s.bN+(H1.bN-H0.bN))with
 |false=>
  rw[hb]at hq;have:=hq (.any,.jN) (by simp);cases this
 |true=>
  rw[hb]at hq;simp only[cP]at hq;split at hq
  ·rename_i q h1;obtain⟨⟨q1,a1,e1⟩,q2,h2,e2⟩:=gp h1 hq;obtain⟨⟨q3,a2,e3⟩,q4,h3,e4⟩:=gp h2 e2;obtain⟨⟨q5,a3,e5⟩,q6,h4,e6⟩:=gp h3 e4;obtain⟨⟨q7,a4,e7⟩,q8,a5,e8⟩:=gp h4 e6;exact Cj h (Ja wu hb a3 e5 a4 e7 a5 e8) (nv (λ_ _ _=>jV) a1 e1) (jV a2 e3)
  ·have:=hq (.any,.jN) (by simp);cases this
theorem EK{f:FuncId}{cn args:List (TV B.S)}{H0 H1 s:dH B.S}{x:TV B.S}(h:dw P f (dY B.E cn) (db B H0) λy t=>y=x.er B.E/\t=db B H1)
 (hq: ∀p∈(eQ B cn H0 x H1 args s).2.2,p.1=p.2):dw P f (dY B.E args) (db B s) λy t=>y=(eQ B cn H0 x H1 args s).1.er B.E/\t=db B (eQ B cn H0 x H1 args s).2.1:=KZ rfl h hq
def dE(B:iU)(P:Program)(M:TM B.S):Option (FuncId×List (TV B.S)):=match M.o with
 |.ro l _=>(match l with
  |i::_=>match Gc B i.guard M.bf with
   |.go=>CZ P i.op M.bf
   |_=>none
  | []=>none)
 |.rd l _ _=>(match l with
  |⟨.gz _ _,some i,sl⟩::_=>match Gc B i.guard M.bf with
   |.go=>CZ P i.op (lD sl M.bf)
   |_=>none
  |_=>none)
 |_=>none
def UK{S:Nat->Type}(o:Option (FuncId×List (TV S))):Option FuncId:=o.map (·.1)
def nV{S:Nat->Type}(o:Option (FuncId×List (TV S))):List (TV S):=match o with
 |some (_,l)=>l
 |none=>[]
def j0(B:iU)(P:Program)(M:TM B.S)(s':dH B.S):iV:=match M.o with
 |.rd l n _=>(match l with
  |⟨.gz _ c,_,_⟩::_=>(match Eu B P false n s' c with
   |some q=>q
   |none=>[(.any,.jN)])
  |_=>[])
 |_=>[]
def sf(B:iU)(M:TM B.S)(v:TV B.S)(s':dH B.S):TM B.S:=match M.o with
 |.ro (i::l) y=>⟨.ro l y,M.k,jh i.dst v M.bf,s'⟩
 |.rd (⟨_,some i,_⟩::l) n y=>⟨.rd l (wD B n) y,M.k,jh i.dst v M.bf,s'⟩
 |_=>M
theorem BA{op:Op}{bf:dB B.S}{g:FuncId}{l:List (TV B.S)}{s:St}{K:AV->St->Prop}(h:CZ P op bf=some (g,l))(hp:dw P g (dY B.E l) s K):ows P op K (eI B bf) s:=by
 unfold CZ at h;unfold ows;split at h
 ·rename_i f a hc;split at h
  ·rename_i g' fi hf;split at h
   ·rename_i l' hl;cases he:enters P g' with
    |false=>grind
    |true=>
     simp only[he,cP]at h;cases h;simp only[hc,ee,hf,iJ,lC,hl,TV.er]
     grind [sR]
   ·cases h
  ·cases h
 ·cases h
theorem K0{ρ:Option Nat}{g:FuncId}{l:List (TV B.S)}{v:TV B.S}{s':dH B.S}(h:dE B P M=some (g,l))(hp:dw P g (dY B.E l) (db B M.s) λy t=>y=v.er B.E/\t=db B s')(hq: ∀p∈j0 B P M s',p.1=p.2)
  (hk:kU B P N ρ Q (sf B M v s')):kU B P N ρ Q M:=by
 obtain⟨o,k,bf,s⟩:=M;unfold dE at h;split at h
 ·rename_i l0 y ho;simp only at ho;subst ho;split at h
  ·rename_i i l1;split at h
   ·rename_i hg;show DQ _ _ _ _;refine yU (B:=B) ?_;simp only at hg;rw[hg];have hk:oC P (YK P N ρ Q k y) l1 (eI B (jh i.dst v bf)) (db B s'):=hk;rw[iI]at hk;exact .inl (BA h (hp.mono λy t ⟨e1,e2⟩=>by grind))
   ·cases h
  ·cases h
 ·rename_i l0 n y ho;simp only at ho;subst ho;split at h
  ·rename_i j c i sl l1;split at h
   ·rename_i hg;intro hn;show Dw _ _ _ _;refine rG (B:=B) ?_;simp only at hg;rw[hg];have hk:dq P (YK P N ρ Q k y) l1 (vH B (wD B n)) (eI B (jh i.dst v bf)) (db B s'):=hk (rI hn);rw[iI,rH]at hk;have hc:rZ P (vH B n) (db B s') c:=by
     unfold j0 at hq;simp only at hq;split at hq
     ·grind [nH]
     simp_all
    have:=BA (K:=λv s'=>rZ P (vH B n) s' c/\dq P (YK P N ρ Q k y) l1 (vH B n) (eH i.dst v (eI B bf)) s') h (hp.mono λy t ⟨e1,e2⟩=>by grind);rw[kV]at this;exact .inl this
   ·cases h
  ·cases h
 ·cases h
theorem Ht{a:α}{g:FuncId}{cn:List (TV B.S)}{H0:dH B.S}{X:α->TV B.S}{H1:α->dH B.S}(hf:cI B P g cn H0 X H1 a)
  (k:RT B P N ρ Q (sf B (G B P N M).1 (eQ B cn H0 (X a) (H1 a) (nV (dE B P (G B P N M).1)) (G B P N M).1.s).1 (eQ B cn H0 (X a) (H1 a) (nV (dE B P (G B P N M).1)) (G B P N M).1.s).2.1))
  (hx:(UK (dE B P (G B P N M).1),(eQ B cn H0 (X a) (H1 a) (nV (dE B P (G B P N M).1)) (G B P N M).1.s).2.2.map Prod.fst,(j0 B P (G B P N M).1 (eQ B cn H0 (X a) (H1 a) (nV (dE B P (G B P N M).1)) (G B P N M).1.s).2.1).map Prod.fst,(G B P N M).2.map Prod.fst)=
   (some g,(eQ B cn H0 (X a) (H1 a) (nV (dE B P (G B P N M).1)) (G B P N M).1.s).2.2.map Prod.snd,(j0 B P (G B P N M).1 (eQ B cn H0 (X a) (H1 a) (nV (dE B P (G B P N M).1)) (G B P N M).1.s).2.1).map Prod.snd,(G B P N M).2.map Prod.snd)):RT B P N ρ Q M:=by
 simp only[Prod.mk.injEq]at hx;obtain⟨h0,h1,h2,h3⟩:=hx;refine sd h3 ⟨?_⟩;have hk:=k.v;generalize(G B P N M).1=m at *;cases hc:dE B P m with
 |none=>rw[hc]at h0;cases h0
 |some p=>
  obtain⟨g',l⟩:=p;rw[hc]at h0 h1 h2 hk;cases h0;exact K0 hc (EK hf (dW h1)) (dW h2) hk
theorem cg{o:Option α}{K:α->Option β}{g:FuncId}{cn:List (TV B.S)}{H0:dH B.S}{X:α->TV B.S}{H1:α->dH B.S}(h:o.bind K=some r)(hf: ∀a,o=some a->cI B P g cn H0 X H1 a)
  (k: ∀a,o=some a->K a=some r->RT B P N ρ Q (sf B (G B P N M).1 (eQ B cn H0 (X a) (H1 a) (nV (dE B P (G B P N M).1)) (G B P N M).1.s).1 (eQ B cn H0 (X a) (H1 a) (nV (dE B P (G B P N M).1)) (G B P N M).1.s).2.1))
  (hx: ∀a,(UK (dE B P (G B P N M).1),(eQ B cn H0 (X a) (H1 a) (nV (dE B P (G B P N M).1)) (G B P N M).1.s).2.2.map Prod.fst,(j0 B P (G B P N M).1 (eQ B cn H0 (X a) (H1 a) (nV (dE B P (G B P N M).1)) (G B P N M).1.s).2.1).map Prod.fst,(G B P N M).2.map Prod.fst)=
   (some g,(eQ B cn H0 (X a) (H1 a) (nV (dE B P (G B P N M).1)) (G B P N M).1.s).2.2.map Prod.snd,(j0 B P (G B P N M).1 (eQ B cn H0 (X a) (H1 a) (nV (dE B P (G B P N M).1)) (G B P N M).1.s).2.1).map Prod.snd,(G B P N M).2.map Prod.snd):=by intro a;kernel_rfl):RT B P N ρ Q M:=
 let⟨a,ha,hK⟩:=lY h
 Ht (hf a ha) (k a ha hK) (hx a)
theorem Hu{uw:Type}{o:Option (α⊕uw)}{K:α->Option β}{K':uw->Option β}{g:FuncId}{cn:List (TV B.S)}{H0:dH B.S}{X:α->TV B.S}{X':uw->TV B.S}{H1:α->dH B.S}{nW:uw->dH B.S}(h:o.bind (Sum.elim K K')=some r)
  (hf: ∀a,o=some a->cI B P g cn H0 (Sum.elim X X') (Sum.elim H1 nW) a)
  (k: ∀a,o=some (.inl a)->K a=some r->RT B P N ρ Q (sf B (G B P N M).1 (eQ B cn H0 (X a) (H1 a) (nV (dE B P (G B P N M).1)) (G B P N M).1.s).1 (eQ B cn H0 (X a) (H1 a) (nV (dE B P (G B P N M).1)) (G B P N M).1.s).2.1))
  (k': ∀a,o=some (.inr a)->K' a=some r->RT B P N ρ Q (sf B (G B P N M).1 (eQ B cn H0 (X' a) (nW a) (nV (dE B P (G B P N M).1)) (G B P N M).1.s).1 (eQ B cn H0 (X' a) (nW a) (nV (dE B P (G B P N M).1)) (G B P N M).1.s).2.1))
  (hx: ∀a,(UK (dE B P (G B P N M).1),(eQ B cn H0 (X a) (H1 a) (nV (dE B P (G B P N M).1)) (G B P N M).1.s).2.2.map Prod.fst,(j0 B P (G B P N M).1 (eQ B cn H0 (X a) (H1 a) (nV (dE B P (G B P N M).1)) (G B P N M).1.s).2.1).map Prod.fst,(G B P N M).2.map Prod.fst)=
   (some g,(eQ B cn H0 (X a) (H1 a) (nV (dE B P (G B P N M).1)) (G B P N M).1.s).2.2.map Prod.snd,(j0 B P (G B P N M).1 (eQ B cn H0 (X a) (H1 a) (nV (dE B P (G B P N M).1)) (G B P N M).1.s).2.1).map Prod.snd,(G B P N M).2.map Prod.snd):=by intro a;kernel_rfl)
  (Aw: ∀a,(UK (dE B P (G B P N M).1),(eQ B cn H0 (X' a) (nW a) (nV (dE B P (G B P N M).1)) (G B P N M).1.s).2.2.map Prod.fst,(j0 B P (G B P N M).1 (eQ B cn H0 (X' a) (nW a) (nV (dE B P (G B P N M).1)) (G B P N M).1.s).2.1).map Prod.fst,(G B P N M).2.map Prod.fst)=
   (some g,(eQ B cn H0 (X' a) (nW a) (nV (dE B P (G B P N M).1)) (G B P N M).1.s).2.2.map Prod.snd,(j0 B P (G B P N M).1 (eQ B cn H0 (X' a) (nW a) (nV (dE B P (G B P N M).1)) (G B P N M).1.s).2.1).map Prod.snd,(G B P N M).2.map Prod.snd):=by intro a;kernel_rfl):RT B P N ρ Q M:=by
 obtain⟨a,ha,hK⟩:=lY h
 grind [Ht]
end
end Go.Am
