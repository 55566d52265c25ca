/- The logic AM, Z: walks on typed states: blocks that become immutable; functions that reach into the state, and calls of them. -/
import Derived.Test.YtpbahncblggodaaGreatAmY
set_option linter.all false
namespace Go.Am
open Go.RowKit
section
variable {S:Nat->Type}
def sr(f:TV S->TV S×iH):List (TV S)->List (TV S)×iH
 | []=>([],[])
 |x::r=>match f x with
  |(y,q)=>match sr f r with
   |(l,q2)=>(y::l,q++q2)
def CL(id:Nat)(l:TV S)(len:Nat)(p:Option (TV S)):Nat->TV S->TV S×iH
 |0,x=>(x,[])
 |n+1,x=>match x with
  |.a y=>(match y with
   |.ms i st k=>bif Nat.beq i id&&Nat.beq st 0 then(l,[(.mp 0 0 k,.mp 0 0 len)])else(x,[])
   |.mp i el off=>bif Nat.beq i id&&Nat.beq el 0&&Nat.beq off 0 then(match p with
    |some v=>(v,[])
    |none=>(x,[]))else(x,[])
   |_=>(x,[]))
  |.fn g cs=>(match sr (CL id l len p n) cs with
   |(cs,q)=>(.fn g cs,q))
  |.agg cs=>(match sr (CL id l len p n) cs with
   |(cs,q)=>(.agg cs,q))
  |.dW cs=>(match sr (CL id l len p n) cs with
   |(cs,q)=>(.dW cs,q))
  |x=>(x,[])
def vB(f:TV S->TV S×iH):dD S->dD S×iH
 | []=>([],[])
 |(t,x)::r=>match f x with
  |(y,q)=>match vB f r with
   |(l,q2)=>((t,y)::l,q++q2)
def kx(id:Nat)(f:TV S->TV S×iH):List (Nat×TB S)->List (Nat×TB S)×iH
 | []=>([],[])
 |(i,b)::r=>match kx id f r with
  |(h,q2)=>bif Nat.beq i id then(h,q2)else match b with
   |.cE n l=>(match sr f l with
    |(l,q)=>((i,.cE n l)::h,q++q2))
   |.rows n c x v m=>(match sr f v with
    |(v,q)=>((i,.rows n c x v m)::h,q++q2))
   |.fm n c w cl pre v post=>(match sr f v with
    |(v,q)=>((i,.fm n c w cl pre v post)::h,q++q2))
   |b=>((i,b)::h,q2)
def Si(b:Option (TB S)):Option (TV S×Nat×Option (TV S)):=match b with
 |some (.ls _ c xs m _)=>some (.l false c xs,m,none)
 |some (.cE _ l)=>some (.s false l,l.length,match l with
  | [e]=>bif e.OG then none else some (.ip (BL e))
  |_=>none)
 |_=>none
def JV(id:Nat)(M:TM S):TM S×iH:=match Si (bH M.s.heap id)with
 |some (l,len,p)=>match vB (CL id l len p 4) M.bI with
  |(bI,q)=>match kx id (CL id l len p 4) M.s.heap with
   |(h,q2)=>(⟨M.o,M.k,bI,⟨h,M.s.bS⟩⟩,q++q2)
 |none=>(M,[(.any,.ij)])
end
section
variable {B:iP} {id len:Nat} {l:TV B.S} {elems:List AV}
theorem mL{f:TV B.S->TV B.S×iH}(hf: ∀x,(∀p∈(f x).2,p.1=p.2)->Fz id elems ((f x).1.er B.E) (x.er B.E)): ∀{cs:List (TV B.S)},(∀p∈(sr f cs).2,p.1=p.2)->zm id elems (dV B.E (sr f cs).1) (dV B.E cs)
 | [],_=>.z
 |x::r,h=>.k (hf x λp hp=>h p (CF _ hp)) (mL hf λp hp=>h p (EK _ hp))
theorem xR{p:Option (TV B.S)}(hp: ∀v,p=some v-> ∃e cs,elems=[e]/\e.cells=cs/\v.er B.E=.ip cs)(hl:l.er B.E=.sl false elems)(hn:len=elems.length): ∀{n:Nat}{x:TV B.S},(∀q∈(CL id l len p n x).2,q.1=q.2)->Fz id elems ((CL id l len p n x).1.er B.E) (x.er B.E)
 |0,x,_=>.r _
 |n+1,x,h=>by
  unfold CL at h |-
  split
  ·rename_i y
   split
   ·rename_i i st k
    have h: ∀p∈(bif Nat.beq i id&&Nat.beq st 0 then(l,[(AV.mp 0 0 k,AV.mp 0 0 len)])else(TV.a (AV.ms i st k),[])).2,p.1=p.2:=h
    cases hc:(Nat.beq i id&&Nat.beq st 0)with
    |false=>exact .r _
    |true=>
     rw[hc]at h
     simp only[eW]at hc
     have e1:=iU hc.1
     have e2:=iU hc.2
     subst e1;subst e2
     have:=h (.mp 0 0 k,.mp 0 0 len) (by simp)
     simp only[AV.mp.injEq]at this
     have hk:=this.2.2
     simp only[cond_true]
     rw[hl]
     have hk:k=elems.length:=by rw[<-hn];exact hk
     show Fz i elems (.sl false elems) (.ms i 0 k)
     exact .m (by omega) (by rw[WN,hk];exact rP (eu _))
   ·rename_i i el off
    cases hc:(Nat.beq i id&&Nat.beq el 0&&Nat.beq off 0)with
    |false=>exact .r _
    |true=>
     simp only[eW]at hc
     have e1:=iU hc.1.1
     have e2:=iU hc.1.2
     have e3:=iU hc.2
     subst e1;subst e2;subst e3
     cases p with
     |none=>exact .r _
     |some v=>
      obtain⟨e,cs,h1,h2,h3⟩:=hp v rfl
      show Fz i elems (v.er B.E) (.mp i 0 0)
      rw[h3]
      exact .o h1 h2
   ·exact .r _
  ·exact .f (mL (λx=>xR hp hl hn) h)
  ·exact .a (mL (λx=>xR hp hl hn) h)
  ·exact .t (mL (λx=>xR hp hl hn) h)
  ·exact .r _
theorem xS{f:TV B.S->TV B.S×iH}(hf: ∀x,(∀p∈(f x).2,p.1=p.2)->Fz id elems ((f x).1.er B.E) (x.er B.E)): ∀{bI:dD B.S},(∀p∈(vB f bI).2,p.1=p.2)-> ∀t x,bH (ez B (vB f bI).1) t=some x-> ∃y,bH (ez B bI) t=some y/\Fz id elems x y
 | [],_,t,x,hx=>by simp[vB,ez,cR]at hx
 |(k,v)::r,h,t,x,hx=>by
  simp only[vB,ez,cG]at hx |-
  split at hx
  ·rename_i e;subst e;cases hx
   exact⟨_,by simp,hf v λp hp=>h p (CF _ hp)⟩
  ·rename_i e
   rw[if_neg e]
   exact xS hf (λp hp=>h p (EK _ hp)) t x hx
theorem wG{f:TV B.S->TV B.S×iH}(hf: ∀x,(∀p∈(f x).2,p.1=p.2)->Fz id elems ((f x).1.er B.E) (x.er B.E)): ∀{h:List (Nat×TB B.S)},(∀p∈(kx id f h).2,p.1=p.2)-> ∀i b,bH (kh B (kx id f h).1) i=some b->i≠id/\ ∃b',bH (kh B h) i=some b'/\P5 id elems b b'
 | [],_,i,b,hx=>by simp[kx,kh,cR]at hx
 |(k,v)::r,h,i,b,hx=>by
  simp only[kx]at h hx
  cases hk:Nat.beq k id with
  |true=>
   rw[hk]at h hx
   have e:=iU hk
   obtain⟨h1,b',h2,h3⟩:=wG hf h i b hx
   refine⟨h1,b',?_,h3⟩
   simp only[kh,cG]
   rw[if_neg (λe2=>h1 (by omega))];exact h2
  |false=>
   rw[hk]at h hx
   simp only[cond_false]at h hx
   have eJ:k≠id:=λe=>by rw[e,Nu]at hk;cases hk
   have rest: ∀{q:iH},(∀p∈(kx id f r).2,p.1=p.2)->bH (kh B (kx id f r).1) i=some b->k≠i->i≠id/\ ∃b',bH (kh B ((k,v)::r)) i=some b'/\P5 id elems b b':=λ{_}hq hx e=>by
    obtain⟨h1,b',h2,h3⟩:=wG hf hq i b hx
    refine⟨h1,b',?_,h3⟩
    simp only[kh,cG]
    rw[if_neg e];exact h2
   split at hx
   ·rename_i n l0
    simp only at h hx
    have Qr: ∀p∈(sr f l0).2,p.1=p.2:=λp hp=>h p (CF _ hp)
    have I7: ∀p∈(kx id f r).2,p.1=p.2:=λp hp=>h p (EK _ hp)
    simp only[kh,cG]at hx
    split at hx
    ·rename_i e;subst e;cases hx
     exact⟨eJ,.cells n (dV B.E l0),by simp[kh,cG,fB],.cells (mL hf Qr)⟩
    ·rename_i e;exact rest (q:=[]) I7 hx e
   ·rename_i n c x0 v0 m
    simp only at h hx
    have Qr: ∀p∈(sr f v0).2,p.1=p.2:=λp hp=>h p (CF _ hp)
    have I7: ∀p∈(kx id f r).2,p.1=p.2:=λp hp=>h p (EK _ hp)
    simp only[kh,cG]at hx
    split at hx
    ·rename_i e;subst e;cases hx
     exact⟨eJ,_,by simp[kh,cG,fB],.cells (.p (.r _) (.p (mL hf Qr) (.r _)))⟩
    ·rename_i e;exact rest (q:=[]) I7 hx e
   ·rename_i n c w cl pre v0 post
    simp only at h hx
    have Qr: ∀p∈(sr f v0).2,p.1=p.2:=λp hp=>h p (CF _ hp)
    have I7: ∀p∈(kx id f r).2,p.1=p.2:=λp hp=>h p (EK _ hp)
    have hl:=(mL hf Qr).length
    rw[gA,gA]at hl
    simp only[kh,cG]at hx
    split at hx
    ·rename_i e;subst e;cases hx
     refine⟨eJ,fB B (.fm n c w cl pre v0 post),by simp[kh,cG],?_⟩
     simp only[fB,hl]
     exact .cells (.p (.r _) (.p (mL hf Qr) (.r _)))
    ·rename_i e;exact rest (q:=[]) I7 hx e
   ·rename_i hv It hv3
    have I7: ∀p∈(kx id f r).2,p.1=p.2:=by
     cases v with
     |cE n l0=>exact absurd rfl (hv n l0)
     |ls n c x _ _=>exact h
     |raw b=>exact h
     |lp c bI st pd=>exact h
     |rows n c x v m=>exact absurd rfl (It n c x v m)
     |fm n c w cl pre v post=>exact absurd rfl (hv3 n c w cl pre v post)
     |fr c cl pre n post=>exact h
    simp only[kh,cG]at hx
    split at hx
    ·rename_i e;subst e;cases hx
     exact⟨eJ,_,by simp[kh,cG],.r _⟩
    ·rename_i e;exact rest (q:=[]) I7 hx e
theorem Hh{s:dI B.S}{id len:Nat}{l:TV B.S}{p:Option (TV B.S)}(h:Si (bH s.heap id)=some (l,len,p)): ∃cz elems,bH (df B s).heap id=some (.cells cz elems)/\l.er B.E=.sl false elems/\len=elems.length/\ ∀v,p=some v-> ∃e cs,elems=[e]/\e.cells=cs/\v.er B.E=.ip cs:=by
 unfold Si at h
 split at h
 ·rename_i n c xs m hm hg
  cases h
  exact⟨n,_,by simp only[dj hg,fB],rfl,by simp[hm],λv hv=>by cases hv⟩
 ·rename_i n l hg
  cases h
  exact⟨n,_,by simp only[dj hg,fB],rfl,by simp[gA],λv hv=>by
   split at hv
   ·rename_i e
    cases hi:e.OG with
    |true=>rw[hi]at hv;cases hv
    |false=>
     rw[hi]at hv;cases hv
     exact⟨e.er B.E,_,rfl,rfl,by simp only[TV.er,Av hi]⟩
   ·cases hv⟩
 ·cases h
variable {P:Program} {N:Nat} {ρ:Option Nat} {Q:Exit->Env->St->Prop} {M:TM B.S}
def Zz{S:Nat->Type}(id:Nat)(M:TM S):Bool:=bif Nat.blt id 1000000 then Zn id M else Ql (Nat.beq ((id-1000000)%2) 1) ((id-1000000) / 2) M
def toReg(B:iP)(P:Program)(N:Nat)(fE:Nat)(M:TM B.S):TM B.S×iH:=R1 B P N (Zz fE) FT M
theorem BI{f:TV B.S->TV B.S×iH}: ∀{h:List (Nat×TB B.S)},gX h id=true->lS B (kx id f h).1=lS B h
 | [],_=>rfl
 |(k,v)::r,hd=>by
  have key: ∀{v':TB B.S},eH B k v'=eH B k v->gX r id=true->(∀x,(kx id f ((k,v)::r)).1=(bif Nat.beq k id then(kx id f r).1 else x)->x=(k,v')::(kx id f r).1->fI v=false\/Nat.beq k id=false->lS B (kx id f ((k,v)::r)).1=lS B ((k,v)::r)):=λ{v'}e1 hr x ex ex2 hc=>by
   rw[ex]
   cases hk:Nat.beq k id with
   |true=>
    have hf:fI v=false:=by
     rcases hc with h|h
     ·exact h
     ·rw[hk]at h;cases h
    simp only[cond_true,lS,BI hr,qI hf,qY]
   |false=>simp only[cond_false,ex2,lS,BI hr,e1]
  cases v with
  |fr c cl pre n post=>
   simp only[gX,eW,pC]at hd
   exact key (v':=.fr c cl pre n post) rfl hd.2 _ (by simp only[kx];cases Nat.beq k id<;>rfl) rfl (.inr hd.1.2)
  |cE n l=>exact key (v':=.cE n (sr f l).1) rfl hd _ (by simp only[kx];cases Nat.beq k id<;>rfl) rfl (.inl rfl)
  |rows n c x v m=>exact key (v':=.rows n c x (sr f v).1 m) rfl hd _ (by simp only[kx];cases Nat.beq k id<;>rfl) rfl (.inl rfl)
  |fm n c w cl pre v post=>exact key (v':=.fm n c w cl pre (sr f v).1 post) rfl hd _ (by simp only[kx];cases Nat.beq k id<;>rfl) rfl (.inl rfl)
  |ls n c x m hm=>exact key (v':=.ls n c x m hm) rfl hd _ (by simp only[kx];cases Nat.beq k id<;>rfl) rfl (.inl rfl)
  |raw b=>exact key (v':=.raw b) rfl hd _ (by simp only[kx];cases Nat.beq k id<;>rfl) rfl (.inl rfl)
  |lp c e st pd=>exact key (v':=.lp c e st pd) rfl hd _ (by simp only[kx];cases Nat.beq k id<;>rfl) rfl (.inl rfl)
def Jc(B:iP)(id:Nat)(s:dI B.S):Bool:=Jq B s.heap&&pc s.heap&&gX s.heap id
theorem xT{w i:Nat}{b:TB B.S}: ∀{h:List (Nat×TB B.S)},gX h i=true->bH h w=some b->fI b=true->fC w i=true
 | [],_,hg,_=>by simp[cR]at hg
 |(k,x)::r,hd,hg,hf=>by
  simp only[cG]at hg
  split at hg
  ·rename_i e
   cases hg;subst e
   obtain⟨c,cl,pre,n,post,rfl⟩:=lh hf
   simp only[gX,eW]at hd
   exact hd.1.1
  ·refine xT (h:=r) ?_ hg hf
   cases x with
   |fr c cl pre n post=>simp only[gX,eW]at hd;exact hd.2
   |_=>exact hd
theorem Sj{id:Nat}{M:TM B.S}(ho:yi M.o=true)(hd:Jc B id M.s=true)(hq: ∀p∈(JV id M).2,p.1=p.2)(h:ki B P N ρ Q (JV id M).1):ki B P N ρ Q M:=by
 obtain⟨o,k,bI,s⟩:=M
 cases o<;>simp only[yi]at ho<;>first|(cases ho;done)|skip
 rename_i c
 simp only[Jc,eW]at hd
 obtain⟨⟨hd,hw⟩,Li⟩:=hd
 unfold JV at hq h
 split at hq
 ·rename_i l len p hf
  rw[hf]at h
  obtain⟨cz,elems,hg,hl,hn,hp⟩:=Hh hf
  have Vl: ∀x:TV B.S,(∀q∈(CL id l len p 4 x).2,q.1=q.2)->Fz id elems ((CL id l len p 4 x).1.er B.E) (x.er B.E):=λx=>xR hp hl hn
  have h:lA P N ρ c (QK P N ρ Q k) (ez B (vB (CL id l len p 4) bI).1) (df B ⟨(kx id (CL id l len p 4) s.heap).1,s.bS⟩):=h
  have h1:=xS Vl (bI:=bI) λp hp=>hq p (CF _ hp)
  have h2:=wG (id:=id) Vl (h:=s.heap) λp hp=>hq p (EK _ hp)
  refine Rw (S2:=df B ⟨(kx id (CL id l len p 4) s.heap).1,s.bS⟩) hg h1 ?_ rfl (λi e=>absurd e (nD (wH (n:=s.bS) hd) i)) h
  intro i b hb
  simp only[df,BI Li]at hb
  rw[cU]at hb
  split at hb
  ·rename_i x hx
   cases hb
   obtain⟨g1,b',g2,g3⟩:=h2 i _ hx
   exact⟨g1,b',by simp only[df];rw[cU,g2],g3⟩
  ·obtain⟨w,b',g1,g2⟩:=xH hw hb
   refine⟨λe=>?_,b,iZ hw g1 g2,.r _⟩
   subst e
   obtain⟨f1,f2⟩:=eT g2
   rw[xT Li g1 f1]at f2;cases f2
 ·have:=hq (.any,.ij) (by simp);cases this
theorem tZ(fE id:Nat)(k:RT B P N ρ Q (JV id (toReg B P N fE M).1).1)
  (hx:(yi (toReg B P N fE M).1.o,Jc B id (toReg B P N fE M).1.s,(toReg B P N fE M).2.map Prod.fst,(JV id (toReg B P N fE M).1).2.map Prod.fst)=(true,true,(toReg B P N fE M).2.map Prod.snd,(JV id (toReg B P N fE M).1).2.map Prod.snd):=by kernel_rfl):RT B P N ρ Q M:=by
 simp only[Prod.mk.injEq]at hx
 obtain⟨h1,h2,h3,h4⟩:=hx
 exact⟨kl (dQ h3) (Sj h1 h2 (dQ h4) k.v)⟩
end
theorem uV{α:Type}{b:α}: ∀{h:List (Nat×α)}{i:Nat},bH h i=some b->dT h i b=h
 | [],i,e=>by simp[cR]at e
 |(k,x)::r,i,e=>by
  simp only[cG]at e
  unfold dT
  rw[Ka]
  split at e
  ·rename_i hk;subst hk;cases e;simp
  ·rename_i hk
   rw[if_neg hk,uV e]
theorem xQ{B:iP}{i:Nat}{b b0:TB B.S}: ∀{h:List (Nat×TB B.S)},bH h i=some b0->eH B i b0=eH B i b->lS B (dT h i b)=lS B h
 | [],hg,_=>by simp[cR]at hg
 |(k,z)::r,hg,e=>by
  simp only[cG]at hg
  simp only[sU]
  split
  ·rename_i hk
   rw[if_pos hk]at hg;cases hg;subst hk
   simp only[lS,e]
  ·rename_i hk
   rw[if_neg hk]at hg
   simp only[lS,xQ hg e]
def OA(B:iP)(id:Nat)(b:TB B.S)(M:TM B.S):TM B.S:=⟨M.o,M.k,M.bI,⟨dT M.s.heap id b,M.s.bS⟩⟩
theorem tB{B:iP}{P:Program}{N:Nat}{ρ:Option Nat}{Q:Exit->Env->St->Prop}{M:TM B.S}(fE id:Nat)(b b':TB B.S)(he:fB B b=fB B b')(k:RT B P N ρ Q (OA B id b' (toReg B P N fE M).1))(hr:eH B id b=eH B id b':=by rfl)
  (hx:(jU (toReg B P N fE M).1.o,bH (toReg B P N fE M).1.s.heap id,(toReg B P N fE M).2.map Prod.fst)=(true,some b,(toReg B P N fE M).2.map Prod.snd):=by kernel_rfl):RT B P N ρ Q M:=by
 simp only[Prod.mk.injEq]at hx
 obtain⟨h1,h2,h3⟩:=hx
 refine⟨kl (dQ h3) ?_⟩
 have k:=k.v
 unfold OA at k
 revert h1 h2 k
 show _->_->_->ki B P N ρ Q (toReg B P N fE M).1
 generalize(toReg B P N fE M).1=g
 intro h1 h2 k
 obtain⟨o,kk,bI,s⟩:=g
 have e:df B ⟨dT s.heap id b',s.bS⟩=df B s:=by
  simp only[df,BH,<-he,xQ h2 hr]
  rw[uV (by rw[fP,h2];rfl)]
 cases o<;>simp only[jU]at h1<;>first|(cases h1;done)|skip
 ·have k:wj P N ρ Q ⟨.run _,kk,ez B bI,df B ⟨dT s.heap id b',s.bS⟩⟩:=k
  rw[e]at k
  exact k
 ·have k:wj P N ρ Q ⟨.out _,kk,ez B bI,df B ⟨dT s.heap id b',s.bS⟩⟩:=k
  rw[e]at k
  exact k
def VB(B:iP)(t:Nat)(v:TV B.S)(M:TM B.S):TM B.S:=⟨M.o,M.k,dT M.bI t v,M.s⟩
theorem tE{B:iP}{P:Program}{N:Nat}{ρ:Option Nat}{Q:Exit->Env->St->Prop}{M:TM B.S}(fE t:Nat)(v v':TV B.S)(he:v.er B.E=v'.er B.E)(k:RT B P N ρ Q (VB B t v' (toReg B P N fE M).1))
  (hx:(jU (toReg B P N fE M).1.o,bH (toReg B P N fE M).1.bI t,(toReg B P N fE M).2.map Prod.fst)=(true,some v,(toReg B P N fE M).2.map Prod.snd):=by kernel_rfl):RT B P N ρ Q M:=by
 simp only[Prod.mk.injEq]at hx
 obtain⟨h1,h2,h3⟩:=hx
 refine⟨kl (dQ h3) ?_⟩
 have k:=k.v
 unfold VB at k
 revert h1 h2 k
 show _->_->_->ki B P N ρ Q (toReg B P N fE M).1
 generalize(toReg B P N fE M).1=g
 intro h1 h2 k
 obtain⟨o,kk,bI,s⟩:=g
 have e:ez B (dT bI t v')=ez B bI:=by
  rw[wK,<-he]
  exact uV (by rw[k7,h2];rfl)
 exact ki.bI (M:=⟨o,kk,bI,s⟩) e k
section
variable {B:iP} {m c n:Nat} {x:List (B.S c)}
end
theorem od{B:iP}{P:Program}{N:Nat}{ρ:Option Nat}{Q:Exit->Env->St->Prop}{M:TM B.S}{β:Type}{r:β}{p:Prop}[Decidable p]{x:Option β}(h:cr p x=some r)(k:p->x=some r->RT B P N ρ Q M):RT B P N ρ Q M:=k (La h).1 (La h).2
theorem TL{B:iP}{P:Program}{N:Nat}{ρ:Option Nat}{Q:Exit->Env->St->Prop}{M:TM B.S}{α β:Type}{r:β}{o:Option α}{K:α->Option β}(h:o.bind K=some r)(k: ∀a,o=some a->K a=some r->RT B P N ρ Q M):RT B P N ρ Q M:=
 let⟨a,ha,hK⟩:=ml h
 k a ha hK
section
variable {B:iP} {P:Program} {N:Nat} {ρ:Option Nat} {Q:Exit->Env->St->Prop} {M:TM B.S}
def AD(M:TM B.S)(cV ids:List Nat)(bS:Nat)(U:dD B.S×List (Nat×TB B.S)):TM B.S:=⟨M.o,M.k,U.1++lj cV M.bI,⟨U.2++kG ids M.s.heap,bS⟩⟩
theorem tV(fE:Nat)(cV ids:List Nat)(bS:Nat)(U:dD B.S×List (Nat×TB B.S))(k:RT B P N ρ Q (AD (toReg B P N fE M).1 cV ids bS U))
  (hx:(jU (toReg B P N fE M).1.o,(toReg B P N fE M).2.map Prod.fst,(zL B ρ (toReg B P N fE M).1.s.bS (AD (toReg B P N fE M).1 cV ids bS U).bI (AD (toReg B P N fE M).1 cV ids bS U).s (toReg B P N fE M).1).map Prod.fst)=
   (true,(toReg B P N fE M).2.map Prod.snd,(zL B ρ (toReg B P N fE M).1.s.bS (AD (toReg B P N fE M).1 cV ids bS U).bI (AD (toReg B P N fE M).1 cV ids bS U).s (toReg B P N fE M).1).map Prod.snd):=by kernel_rfl):RT B P N ρ Q M:=by
 simp only[Prod.mk.injEq]at hx
 obtain⟨h1,h2,h3⟩:=hx
 refine⟨kl (dQ h2) ?_⟩
 obtain⟨Ft,L,hI⟩:=wS (dQ h3)
 have k:=k.v
 unfold AD at k hI
 show ki B P N ρ Q (toReg B P N fE M).1
 generalize(toReg B P N fE M).1=g at *
 obtain⟨o,kk,bI,s⟩:=g
 have ho:jU o=true:=h1
 exact HF ho Ft (eu _) hI k
end
section
variable {P:Program}
theorem AE{G:bZ}{s0:St}{w w':World}{e:Ending}{K:AV->St->Prop}(hs:eA G s0 w)
  (h:vX G s0 w (λy s=> ∃s1 y1 bQ π S2 x2,s0.bS<=bQ/\ri s y s1 y1/\pU bQ π S2 s1/\Co (gj bQ S2.heap) π x2 y1/\K x2 S2) e w'):vX G s0 w K e w':=by
 obtain⟨v,G',y,s',rfl,hV,hS,hE,s1,y1,bQ,π,S2,x2,hb,ht,hi,hc,hk⟩:=h
 obtain⟨G1,h1,h2,h3⟩:=ht G' w' v hS hV
 have hE1:=hE.trans hs h2
 exact⟨v,_,x2,S2,rfl,hc.V Aj h3,hi.toIntoM.iE h1,hi.ext hs hE1 h1 hb,hk⟩
theorem DP{f:FuncId}{args:List AV}{s0:St}{K:AV->St->Prop}
  (h:dJ P f args s0 λy s=> ∃s1 y1 bQ π S2 x2,s0.bS<=bQ/\ri s y s1 y1/\pU bQ π S2 s1/\Co (gj bQ S2.heap) π x2 y1/\K x2 S2):dJ P f args s0 K:=λG w vs hs hv=>
 (h G w vs hs hv).mono λ_ _ hg=>AE hs hg
theorem Dq{id:Nat}{args:List AV}{s0:St}{K:AV->St->Prop}
  (h:iM P id args s0 λy s=> ∃s1 y1 bQ π S2 x2,s0.bS<=bQ/\ri s y s1 y1/\pU bQ π S2 s1/\Co (gj bQ S2.heap) π x2 y1/\K x2 S2):iM P id args s0 K:=λo G w r vs hs ho hv=>by
 obtain⟨fn,tmps,assign,body,h1,h2⟩:=h o G w r vs hs ho hv
 exact⟨fn,tmps,assign,body,h1,h2.mono λ_ _ hg=>AE hs hg⟩
end
section
variable {B:iP} {P:Program} {N:Nat} {ρ:Option Nat} {Q:Exit->Env->St->Prop} {M:TM B.S} {α β:Type} {r:β}
def cP(B:iP)(P:Program)(f:FuncId)(args:List (TV B.S))(H0:dI B.S)(X:α->TV B.S)(H1:α->dI B.S)(a:α):Prop:=
 dJ P f (dV B.E args) (df B H0) λy t=>y=(X a).er B.E/\t=df B (H1 a)
def KH(B:iP)(bQ:Nat)(X:α->TV B.S)(H1:α->dI B.S)(a:α):AV->St->Prop:=λy s=> ∃s1 y1 xX π,bQ<=xX/\ri s y s1 y1/\pU xX π (df B (H1 a)) s1/\Co (gj xX (df B (H1 a)).heap) π ((X a).er B.E) y1
theorem iC{f:FuncId}{args:List (TV B.S)}{H0:dI B.S}{X:α->TV B.S}{H1:α->dI B.S}{a:α}(h:RT B P (nF P f) none (IP P (rF P f).toArray (KH B H0.bS X H1 a)) ⟨.run (cF P f),[],Jo args 0,H0⟩)
  (hx:((DG P f).isSome&&Nat.ble args.length (nF P f)&&Jq B H0.heap)=true:=by kernel_rfl):cP B P f args H0 X H1 a:=by
 simp only[eW]at hx
 obtain⟨⟨h1,h2⟩,h3⟩:=hx
 have h:=h.v
 obtain⟨⟨n,rs,c⟩,hb⟩:=zY.1 h1
 have e1:nF P f=n:=by simp[nF,hb]
 have e2:rF P f=rs:=by simp[rF,hb]
 have e3:cF P f=c:=by simp[cF,hb]
 rw[e1,e2,e3]at h
 rw[e1]at h2
 refine DP ?_
 refine(P7 (s:=df B H0) n rs c _ hb HH.symm (by rw[gA];exact h2) (wH h3) h).mono ?_
 rintro y s ⟨s1,y1,xX,π,k1,k2,k3,k4⟩
 exact⟨s1,y1,xX,π,_,_,k1,k2,k3,k4,rfl,rfl⟩
def Sk(B:iP)(P:Program)(fz:Bool)(bQ:Nat)(rs:List ResultVar)(x:TV B.S)(S2:dI B.S)(M:TM B.S):Option iH:=match M.o with
 |.out e=>(match M.k with
  | []=>bif (match e with|.ret=>true|.normal=>true|_=>false)&&AB B M.s then(match Mh B P M.bI M.s rs with
   |some l=>(match(bif fz then DH (match l with| [x]=>x|l=>.dW l) (DL M.s)else((match l with| [x]=>x|l=>.dW l),DL M.s,[]))with
    |(y,s1,q)=>bif !fz||y.cl then(match Ll B bQ (Lm bQ [(0,x)] S2 [(0,y)] s1) [(0,x)] S2 [(0,y)] s1 with
     |some q2=>some (q++q2)
     |none=>none)else none)
   |none=>none)else none
  |_=>none)
 |_=>none
def vC(o:Option iH):iH:=match o with
 |some q=>q
 |none=>[(.any,.ij)]
theorem xW{o:Option iH}(h: ∀p∈vC o,p.1=p.2): ∃q,o=some q/\ ∀p∈q,p.1=p.2:=by
 cases o with
 |none=>have:=h (.any,.ij) (by simp[vC]);cases this
 |some q=>exact⟨q,rfl,h⟩
theorem cC{rs:List ResultVar}{bQ:Nat}{X:α->TV B.S}{H1:α->dI B.S}{x a:α}(fz:Bool)(h:some x=some a)(hx:((vC (Sk B P fz bQ rs (X x) (H1 x) (G B P N M).1)).map Prod.fst,(G B P N M).2.map Prod.fst)=
   ((vC (Sk B P fz bQ rs (X x) (H1 x) (G B P N M).1)).map Prod.snd,(G B P N M).2.map Prod.snd):=by kernel_rfl):RT B P N none (IP P rs.toArray (KH B bQ X H1 a)) M:=by
 cases h
 simp only[Prod.mk.injEq]at hx
 obtain⟨h2,h3⟩:=hx
 refine rk h3 ⟨?_⟩
 obtain⟨q,hr,hq⟩:=xW (dQ h2)
 generalize(G B P N M).1=g at *
 obtain⟨o,k,bI,s⟩:=g
 unfold Sk at hr
 split at hr
 ·rename_i e ho
  simp only at ho;subst ho
  split at hr
  ·rename_i hk
   simp only at hk;subst hk
   generalize Zy:(match e with|.ret=>true|.normal=>true|_=>false)=b0 at hr
   cases hb:(b0&&AB B s)with
   |false=>simp only[hb,cond_false]at hr;cases hr
   |true=>
    simp only[hb,cond_true]at hr
    simp only[eW]at hb
    have he:e=.ret\/e=.normal:=by
     rw[hb.1]at Zy
     cases e<;>simp_all
    split at hr
    ·rename_i l hl
     have hl:=B7 hl
     generalize hy:(match l with| [x]=>x|l=>TV.dW l)=y0 at hr
     have E4:lb P rs.toArray (ez B bI) (df B s)=some (y0.er B.E):=by
      unfold lb
      simp only[hl]
      subst hy
      cases l with
      |nil=>rfl
      |cons x r=>cases r<;>rfl
     generalize hz:(bif fz then DH y0 (DL s)else(y0,DL s,[]))=z at hr
     obtain⟨y,s1,q1⟩:=z
     simp only at hr
     cases hc:(!fz||y.cl)with
     |false=>simp only[hc,cond_false]at hr;cases hr
     |true=>
      simp only[hc,cond_true]at hr
      split at hr
      ·rename_i q2 h2
       cases hr
       have hI:=BK h2 (λp hp=>hq p (EK _ hp))
       obtain⟨z,Hd,FC⟩:=hI.bI 0 (((X x).er B.E)) (by simp[ez,cG])
       have Hd:z=y.er B.E:=by simp[ez,cG]at Hd;exact Hd.symm
       subst Hd
       have ht:ri (df B (DL s)) (y0.er B.E) (df B s1) (y.er B.E):=by
        cases fz with
        |false=>
         simp only[cond_false,Prod.mk.injEq]at hz
         obtain⟨e1,e2,_⟩:=hz
         subst e1;subst e2
         exact ri.refl _ _
        |true=>
         simp only[cond_true]at hz
         simp only[oe,GG]at hc
         have hf:=HI (B:=B) y0 (DL s) (by rw[hz];exact hc) (by rw[hz];exactλp hp=>hq p (CF _ hp))
         rw[hz]at hf
         have:=C3 (df B (DL s)) (y0.er B.E)
         rw[hf]at this
         exact this
       have DO:Fj (df B (DL s)) (df B s):=DN hb.2
       have hK:KH B bQ X H1 x (y0.er B.E) (df B (DL s)):=⟨_,_,bQ,_,eu _,ht,hI.st,FC⟩
       rcases he with rfl|rfl
       ·exactλG w a hn=>hn.after ⟨_,_,E4,DO,hK⟩
       ·exactλG w a hn=>hn.after ⟨_,_,E4,DO,hK⟩
      ·cases hr
    ·cases hr
  ·cases hr
 ·cases hr
section
variable {S:Nat->Type}
def Jr(f:TV S->TV S):List (TV S)->List (TV S)
 | []=>[]
 |x::r=>f x::Jr f r
def DQ(L:List (Nat×Nat)):Nat->TV S->TV S
 |0,x=>x
 |n+1,x=>match x with
  |.a y=>(match y with
   |.mp i e o=>.a (.mp (pi L i) e o)
   |.ms i a b=>.a (.ms (pi L i) a b)
   |.kt i=>.a (.kt (pi L i))
   |_=>x)
  |.pt i a b=>.pt (pi L i) a b
  |.fn g cs=>.fn g (Jr (DQ L n) cs)
  |.agg cs=>.agg (Jr (DQ L n) cs)
  |.dW cs=>.dW (Jr (DQ L n) cs)
  |x=>x
def Qs(f:TV S->TV S):List (Nat×TV S)->List (Nat×TV S)
 | []=>[]
 |(i,x)::r=>(i,f x)::Qs f r
def ZA(L:List (Nat×Nat))(b:TB S):TB S:=match b with
 |.cE n l=>.cE n (Jr (DQ L 4) l)
 |.lp c bI st pd=>.lp c (Qs (DQ L 4) bI) st pd
 |.fm n c w cl pre ky post=>.fm n c (pi L w) cl pre (Jr (DQ L 4) ky) post
 |b=>b
def VC(L:List (Nat×Nat)):List (Nat×TB S)->List (Nat×TB S)
 | []=>[]
 |(i,b)::r=>(pi L i,ZA L b)::VC L r
def yn(L:List (Nat×Nat)):List (Nat×TB S)->List (Nat×TB S)
 | []=>[]
 |p::r=>bif (bH L p.1).isSome then p::yn L r else yn L r
def prA(cn args:List (TV S))(H0 s:dI S):List (Nat×Nat):=
 match NO (NP s.bS 4) cn args with
 |l0=>match l0++Qo s.bS false l0 s.heap (yn l0 H0.heap)with
  |l1=>match l1++Qo s.bS false l1 s.heap (yn l1 H0.heap)with
   |l2=>match l2++Qo s.bS false l2 s.heap (yn l2 H0.heap)with
    |l3=>match l3++Qo s.bS false l3 s.heap (yn l3 H0.heap)with
     |l4=>l4++Qo s.bS true l4 s.heap (yn l4 H0.heap)
def Sl(c0 bS:Nat)(L:List (Nat×Nat)):List (Nat×TB S)->List (Nat×Nat)
 | []=>[]
 |(i,_)::r=>bif (bH L i).isSome then Sl c0 bS L r else(i,bS+(i-c0))::Sl c0 bS L r
def tH(h:List (Nat×TB S))(L:List (Nat×Nat)):List (Nat×Nat):=match h with
 | []=>[]
 |(i,_)::r=>(pi L i,i)::tH r L
def Mj(ids:List Nat):List (Nat×TB S)->List Nat
 | []=>[]
 |(i,_)::r=>bif jl i ids then Mj ids r else i::Mj ids r
def Ca(P:Program)(op:Op)(bI:dD S):Option (FuncId×List (TV S)):=match fS op with
 |some (f,a)=>match eX bI f with
  |some (.fn g fH)=>match oI bI a with
   |some l=>bif enters P g then some (g,l++fH)else none
   |none=>none
  |_=>none
 |none=>none
end
section
variable (B:iP) (P:Program)
def O9(hp:NN B.S)(ok:Nat->Bool)(π:Nat->Nat)(s:dI B.S):List (Nat×TB B.S)->Option iH
 | []=>some []
 |(id,b)::r=>rn (match bH s.heap (π id)with
  |some b'=>yl B hp ok π b b'
  |none=>none) (O9 hp ok π s r)
def Pa(hp:NN B.S)(ok:Nat->Bool)(σ:Nat->Nat)(H1:dI B.S):List (Nat×TB B.S)->Option iH
 | []=>some []
 |(id,b)::r=>rn (match bH H1.heap (σ id)with
  |some b'=>yl B hp ok σ b b'
  |none=>none) (Pa hp ok σ H1 r)
def HJ{S:Nat->Type}(rest:List (Nat×TB S))(id:Nat):Bool:=jl id (rest.map (·.1))||rest.any λp=>fI p.2&&!(fC p.1 id)
def Dr(Lp Ls:List (Nat×Nat))(H0 H1 s:dI B.S)(jI rest:List (Nat×TB B.S))(bS:Nat):Bool:=
 H0.heap.all (λp=>Nat.blt p.1 H0.bS&&(!(fI p.2)||Nat.blt (pi Lp p.1) s.bS)&&H0.heap.all λq=>Nat.beq p.1 q.1||!(Nat.beq (pi Lp p.1) (pi Lp q.1)))&&
 jI.all (λp=>Nat.blt p.1 bS&&!(jl p.1 (rest.map (·.1)))&&(!(fI p.2)||Nat.blt (pi Ls p.1) H1.bS)&&(Nat.ble s.bS p.1||((bH H0.heap (pi Ls p.1)).isSome&&Nat.beq (pi Lp (pi Ls p.1)) p.1))&&jI.all λq=>Nat.beq p.1 q.1||!(Nat.beq (pi Ls p.1) (pi Ls q.1)))&&
 rest.all (λp=>Nat.blt p.1 bS&&H0.heap.all λq=>!(Nat.beq (pi Lp q.1) p.1))&&
 Nat.ble s.bS bS&&Ak (kh B s.heap) (kh B (jI++rest))&&
 (pc H0.heap&&pc H1.heap&&pc s.heap&&pc (jI++rest)&&Al bS (jI++rest)&&Al H0.bS H0.heap)
def Pb(Ls:List (Nat×Nat))(H0 H1:dI B.S)(n:Nat):List (Nat×TB B.S)->Option iH
 | []=>some []
 |(id,b)::r=>rn (bif fI b&&Nat.blt id n then(match bH H1.heap (pi Ls id)with
  |some b1=>(match bH H0.heap (pi Ls id)with
   |some b0=>yl B ([],[]) (λ_=>true) (pi []) b1 b0
   |none=>none)
  |none=>none)else some []) (Pb Ls H0 H1 n r)
def oH(Lp Lr:List (Nat×Nat))(jI rest:List (Nat×TB B.S))(cn:List (TV B.S))(H0:dI B.S)(x:TV B.S)(H1:dI B.S)(args:List (TV B.S))(s:dI B.S):TV B.S×dI B.S×iH:=
 (DQ Lr 4 x,⟨jI++rest,s.bS+(H1.bS-H0.bS)⟩,match(bif Dr B Lp (tH H1.heap Lr) H0 H1 s jI rest (s.bS+(H1.bS-H0.bS))then
   rn (JX (F1 B (H0.heap,s.heap) (gj 0 (df B H0).heap) (pw Lp (jm Lp s.bS H0.heap)) 4) cn args) (rn (F1 B (jI,H1.heap) (okF (HJ rest) (df B ⟨jI++rest,s.bS+(H1.bS-H0.bS)⟩).heap) (pw (tH H1.heap Lr) (jm (tH H1.heap Lr) H1.bS jI)) 4 (DQ Lr 4 x) x) (rn (O9 B (H0.heap,s.heap) (gj 0 (df B H0).heap) (pw Lp (jm Lp s.bS H0.heap)) s H0.heap)
    (rn (Pa B (jI,H1.heap) (okF (HJ rest) (df B ⟨jI++rest,s.bS+(H1.bS-H0.bS)⟩).heap) (pw (tH H1.heap Lr) (jm (tH H1.heap Lr) H1.bS jI)) H1 jI) (Pb B (tH H1.heap Lr) H0 H1 s.bS jI))))else none)with
  |some q=>q
  |none=>[(.any,.ij)])
def eI(cn:List (TV B.S))(H0:dI B.S)(x:TV B.S)(H1:dI B.S)(args:List (TV B.S))(s:dI B.S):TV B.S×dI B.S×iH:=
 match prA cn args H0 s with
 |Lp=>match Lp++Sl H0.bS s.bS Lp H1.heap with
  |Lr=>oH B Lp Lr (VC Lr H1.heap) (kG (Mj (H0.heap.map λp=>pi Lp p.1) s.heap) s.heap) cn H0 x H1 args s
end
theorem yo{hp:NN B.S}{ok:Nat->Bool}{π:Nat->Nat}{s:dI B.S}: ∀{h:List (Nat×TB B.S)}{q:iH},O9 B hp ok π s h=some q->(∀p∈q,p.1=p.2)-> ∀{id:Nat}{b:TB B.S},bH h id=some b-> ∃b' q',bH s.heap (π id)=some b'/\yl B hp ok π b b'=some q'/\ ∀p∈q',p.1=p.2
 | [],_,_,_,id,_,hg=>by simp[cR]at hg
 |(k,b0)::r,q,h,hq,id,b,hg=>by
  obtain⟨⟨q1,h1,e1⟩,q2,h2,e2⟩:=fQ h hq
  simp only[cG]at hg
  split at hg
  ·rename_i e
   cases hg;subst e
   split at h1
   ·rename_i b' hb;exact⟨b',_,hb,h1,e1⟩
   ·cases h1
  ·exact yo h2 e2 hg
theorem qc{hp:NN B.S}{ok:Nat->Bool}{σ:Nat->Nat}{H1:dI B.S}: ∀{h:List (Nat×TB B.S)}{q:iH},Pa B hp ok σ H1 h=some q->(∀p∈q,p.1=p.2)-> ∀{id:Nat}{b:TB B.S},bH h id=some b-> ∃b' q',bH H1.heap (σ id)=some b'/\yl B hp ok σ b b'=some q'/\ ∀p∈q',p.1=p.2
 | [],_,_,_,id,_,hg=>by simp[cR]at hg
 |(k,b0)::r,q,h,hq,id,b,hg=>by
  obtain⟨⟨q1,h1,e1⟩,q2,h2,e2⟩:=fQ h hq
  simp only[cG]at hg
  split at hg
  ·rename_i e
   cases hg;subst e
   split at h1
   ·rename_i b' hb;exact⟨b',_,hb,h1,e1⟩
   ·cases h1
  ·exact qc h2 e2 hg
theorem DR{Ls:List (Nat×Nat)}{H0 H1:dI B.S}{n:Nat}: ∀{h:List (Nat×TB B.S)}{q:iH},Pb B Ls H0 H1 n h=some q->(∀p∈q,p.1=p.2)-> ∀{id:Nat}{b:TB B.S},bH h id=some b->fI b=true->id<n-> ∃b1 b0 q',bH H1.heap (pi Ls id)=some b1/\bH H0.heap (pi Ls id)=some b0/\yl B ([],[]) (λ_=>true) (pi []) b1 b0=some q'/\ ∀p∈q',p.1=p.2
 | [],_,_,_,id,_,hg,_,_=>by simp[cR]at hg
 |(k,c)::r,q,h,hq,id,b,hg,hf,hn=>by
  obtain⟨⟨q1,h1,e1⟩,q2,h2,e2⟩:=fQ h hq
  simp only[cG]at hg
  split at hg
  ·rename_i e
   cases hg;subst e
   simp only[hf,I6 hn,Bool.and_true,cond_true]at h1
   split at h1
   ·rename_i b1 uF
    split at h1
    ·rename_i b0 CU;exact⟨b1,b0,_,uF,CU,h1,e1⟩
    ·cases h1
   ·cases h1
  ·exact DR h2 e2 hg hf hn
theorem He{x:Nat}{l:List Nat}(h:x∈l):jl x l=true:=by
 unfold jl
 exact w9.2 ⟨x,h,Nu x⟩
theorem VD{rest:List (Nat×TB B.S)}{id:Nat}{b:TB B.S}(h:bH rest id=some b):jl id (rest.map (·.1))=true:=He (kb.2 ⟨(id,b),nE h,rfl⟩)
theorem FK{a b:List (Nat×TB B.S)}:kh B (a++b)=kh B a++kh B b:=by
 induction a with
 |nil=>rfl
 |cons p r ih=>obtain⟨i,x⟩:=p;simp only[vT,kh,ih]
theorem jr{h:List (Nat×TB B.S)}{id:Nat}{b:TB B.S}: ∀{ks:List Nat},bH (kG ks h) id=some b->bH h id=some b
 | [],hg=>by simp[kG,cR]at hg
 |k::r,hg=>by
  unfold kG at hg
  split at hg
  ·rename_i c hc
   simp only[cG]at hg
   split at hg
   ·rename_i e;cases hg;subst e;exact hc
   ·exact jr hg
  ·exact jr hg
section
variable {Lp Ls:List (Nat×Nat)} {H0 H1 s:dI B.S} {jI rest:List (Nat×TB B.S)} {bS:Nat} {ks:List Nat}
theorem Hl(vx:rest=kG ks s.heap)(hb:Dr B Lp Ls H0 H1 s jI rest bS=true){q1 q2 q3:iH}
  (h1:O9 B (H0.heap,s.heap) (gj 0 (df B H0).heap) (pw Lp (jm Lp s.bS H0.heap)) s H0.heap=some q1) (e1: ∀p∈q1,p.1=p.2)
  (h2:Pa B (jI,H1.heap) (okF (HJ rest) (df B ⟨jI++rest,bS⟩).heap) (pw Ls (jm Ls H1.bS jI)) H1 jI=some q2) (e2: ∀p∈q2,p.1=p.2)
  (h3:Pb B Ls H0 H1 s.bS jI=some q3) (e3: ∀p∈q3,p.1=p.2):
  Fits (pw Lp (jm Lp s.bS H0.heap)) (pw Ls (jm Ls H1.bS jI)) (HJ rest) (df B H0) (df B H1) (df B s) (df B ⟨jI++rest,bS⟩):=by
 simp only[Dr,eW]at hb
 obtain⟨⟨⟨⟨⟨b1,b2⟩,b3⟩,b4⟩,b5⟩,⟨⟨⟨⟨w0,w1⟩,w2⟩,w3⟩,w4⟩,w5⟩:=hb
 have b4:=sT b4
 have k0: ∀{id b},bH H0.heap id=some b->id<H0.bS/\(fI b=true->pi Lp id<s.bS)/\(∀{fq b'},bH H0.heap fq=some b'->pi Lp id=pi Lp fq->id=fq)/\ ∃b',bH s.heap (pi Lp id)=some b'/\(fI b=true->b'=b):=λ{id b}hg=>by
  have:=dM b1 hg
  simp only[eW,qZ,sS,pC]at this
  obtain⟨⟨c1,c2⟩,c3⟩:=this
  refine⟨c1,λhf=>?_,λ{fq b'}j0 e=>?_,?_⟩
  ·rcases c2 with h|h
   ·rw[hf]at h;cases h
   ·exact h
  ·have:=dM c3 j0
   simp only[sS,pC]at this
   rcases this with h|h
   ·exact iU h
   ·exact absurd e (zG h)
  ·obtain⟨b',q',g1,g2,g3⟩:=yo h1 e1 hg
   rw[kJ w0 hg]at g1
   refine⟨b',g1,λhf=>?_⟩
   obtain⟨c,cl,pre,n,post,rfl⟩:=lh hf
   exact wR g2 g3
 have Js: ∀{w b id x},bH H0.heap w=some b->bH (eH B w b) id=some x->pw Lp (jm Lp s.bS H0.heap) id=pi Lp w+(id-w)/\fC w id=false/\fI b=true:=λ{w b id x}hg hx=>by
  obtain⟨f1,f2⟩:=eT hx
  exact⟨FB w0 hg f1 ((k0 hg).2.1 f1) f2,f2,f1⟩
 have Sm:xK B H0.heap (gj 0 (df B H0).heap) (pw Lp (jm Lp s.bS H0.heap)):=λw b hg id x hx=>⟨pV (iZ w0 hg hx),by rw[(Js hg hx).1,kJ w0 hg]⟩
 have Xv: ∀{i x},bH (df B H0).heap i=some x->(∃b b',bH H0.heap i=some b/\pw Lp (jm Lp s.bS H0.heap) i=pi Lp i/\bH s.heap (pi Lp i)=some b')\/(∃w b,bH H0.heap w=some b/\fI b=true/\bH (eH B w b) i=some x/\pw Lp (jm Lp s.bS H0.heap) i=pi Lp w+(i-w)/\bH s.heap (pi Lp w)=some b/\fC (pi Lp w) (pi Lp w+(i-w))=false):=λ{i x}hx=>by
  rcases gH w0 hx with⟨b,hg,rfl⟩|⟨_,w,b,hg,hr⟩
  ·obtain⟨_,_,_,b',g1,_⟩:=k0 hg
   exact .inl ⟨b,b',hg,kJ w0 hg,g1⟩
  ·obtain⟨r1,r2,r3⟩:=Js hg hr
   obtain⟨_,_,_,b',g1,g2⟩:=k0 hg
   have:=g2 r3
   subst this
   obtain⟨o1,o2⟩:=eR r2
   exact .inr ⟨w,_,hg,r3,hr,r1,g1,kZ (by omega) (by omega)⟩
 have kd: ∀{id b},bH jI id=some b->id<bS/\bH rest id=none/\(fI b=true->pi Ls id<H1.bS)/\(id<s.bS->(∃b0,bH H0.heap (pi Ls id)=some b0)/\pi Lp (pi Ls id)=id)/\ ∀{fq b'},bH jI fq=some b'->pi Ls id=pi Ls fq->id=fq:=λ{id b}hg=>by
  have:=dM b2 hg
  simp only[eW,qZ,sS,pC,Iw]at this
  obtain⟨⟨⟨⟨c1,c2⟩,c3⟩,c4⟩,c5⟩:=this
  refine⟨c1,?_,λhf=>?_,λhl=>?_,λ{fq b'}j0 e=>?_⟩
  ·cases hr:bH rest id with
   |none=>rfl
   |some x=>rw[VD hr]at c2;cases c2
  ·rcases c3 with h|h
   ·rw[hf]at h;cases h
   ·exact h
  ·rcases c4 with h|h
   ·omega
   ·exact⟨zY.1 h.1,iU h.2⟩
  ·have:=dM c5 j0
   simp only[sS,pC]at this
   rcases this with h|h
   ·exact iU h
   ·exact absurd e (zG h)
 have HK: ∀{id b},bH jI id=some b->bH (jI++rest) id=some b:=λhg=>by rw[cU,hg]
 have wd:pc jI=true:=by
  have: ∀{a b:List (Nat×TB B.S)},pc (a++b)=true->pc a=true:=by
   intro a
   induction a with
   |nil=>intro b _;rfl
   |cons p r ih=>
    intro b h
    obtain⟨k,x⟩:=p
    simp only[vT,pc,List.all_append,eW]at h |-
    exact⟨h.1.1,ih h.2⟩
  exact this w3
 have ss: ∀{id x},bH (df B ⟨jI++rest,bS⟩).heap id=some x->(∃b,bH jI id=some b/\x=fB B b/\HJ rest id=false)\/(∃b,bH rest id=some b/\x=fB B b/\HJ rest id=true)\/
   (∃w b,bH jI w=some b/\fI b=true/\fC w id=false/\bH (eH B w b) id=some x/\HJ rest id=false)\/(∃w b,bH rest w=some b/\fI b=true/\fC w id=false/\bH (eH B w b) id=some x/\HJ rest id=true):=λ{id x}hx=>by
  have frF:(bH rest id=none)->(∀w b,bH (jI++rest) w=some b->fI b=true->fC w id=false->bH rest w=none)->(∀p∈rest,fI p.2=true->fC p.1 id=true)->HJ rest id=false:=λh1 _ h3=>by
   unfold HJ
   rw[EH]
   constructor
   ·cases hm:jl id (rest.map (·.1))with
    |false=>rfl
    |true=>
     exfalso
     unfold jl at hm
     obtain⟨y,hy,hb⟩:=w9.1 hm
     have:=iU hb
     subst this
     obtain⟨p,hp,e⟩:=kb.1 hy
     have: ∀{l:List (Nat×TB B.S)}{k:Nat},(∃p∈l,p.1=k)->bH l k≠none:=by
      intro l
      induction l with
      |nil=>rintro k ⟨p,hp,_⟩;simp at hp
      |cons a r ih=>
       rintro k ⟨p,hp,e⟩
       obtain⟨i,z⟩:=a
       simp only[cG]
       split
       ·simp
       ·rename_i eJ
        simp only[mB]at hp
        rcases hp with rfl|hp
        ·exact absurd e eJ
        ·exact ih ⟨p,hp,e⟩
     exact this ⟨p,hp,e⟩ h1
   ·cases hm:rest.any λp=>fI p.2&&!(fC p.1 id)with
    |false=>rfl
    |true=>
     exfalso
     obtain⟨p,hp,hb⟩:=w9.1 hm
     simp only[eW,pC]at hb
     rw[h3 p hp hb.1]at hb;cases hb.2
  have frR: ∀p∈rest,fI p.2=true->bH (jI++rest) p.1=some p.2:=λp hp hf=>by
   have: ∀{a b:List (Nat×TB B.S)},pc (a++b)=true-> ∀p∈b,fI p.2=true->bH (a++b) p.1=some p.2:=by
    intro a
    induction a with
    |nil=>
     intro b
     induction b with
     |nil=>intro _ p hp;simp at hp
     |cons x r ih=>
      intro h p hp hf
      obtain⟨k,z⟩:=x
      simp only[qY,pc,eW]at h
      simp only[mB]at hp
      simp only[qY,cG]
      rcases hp with rfl|hp
      ·simp
      ·have:=py.1 h.1 p hp
       simp only[lD,hf,cond_true,eW,pC]at this
       rw[if_neg (zG this.2.2)]
       exact ih (by simpa using h.2) p hp hf
    |cons x r ih=>
     intro b h p hp hf
     obtain⟨k,z⟩:=x
     simp only[vT,pc,eW]at h
     simp only[vT,cG]
     have:=py.1 h.1 p (EK _ hp)
     simp only[lD,hf,cond_true,eW,pC]at this
     rw[if_neg (zG this.2.2)]
     exact ih h.2 p hp hf
   exact this w3 p hp hf
  rcases gH (s:=⟨jI++rest,bS⟩) w3 hx with⟨b,hg,rfl⟩|⟨hn,w,b,hg,hr⟩
  ·have re: ∀p∈rest,fI p.2=true->fC p.1 id=true:=λp hp hf=>iu w3 (frR p hp hf) hg hf
   have j0:=hg
   simp only at j0
   rw[cU]at j0
   split at j0
   ·rename_i y hy
    cases j0
    exact .inl ⟨_,hy,rfl,frF (kd hy).2.1 (λw b' h1 h2 h3=>by rw[iu w3 h1 hg h2]at h3;cases h3) re⟩
   ·exact .inr (.inl ⟨_,j0,rfl,by unfold HJ;rw[VD j0];rfl⟩)
  ·obtain⟨f1,f2⟩:=eT hr
   have j0:=hg
   simp only at j0 hn
   rw[cU]at j0
   split at j0
   ·rename_i y hy
    cases j0
    refine .inr (.inr (.inl ⟨w,_,hy,f1,f2,hr,frF ?_ (λw' b' h1 h2 h3=>?_) λp hp hf=>?_⟩))
    ·rw[cU]at hn
     split at hn
     ·cases hn
     ·exact hn
    ·have:=lE w3 h1 hg h2 f1 h3 f2
     subst this
     exact(kd hy).2.1
    ·cases ho:fC p.1 id with
     |true=>rfl
     |false=>
      exfalso
      have:=lE w3 (frR p hp hf) hg hf f1 ho f2
      have Q8:=(kd hy).2.1
      rw[<-this]at Q8
      have: ∀{l:List (Nat×TB B.S)}{k:Nat},(∃p∈l,p.1=k)->bH l k≠none:=by
       intro l
       induction l with
       |nil=>rintro k ⟨p,hp,_⟩;simp at hp
       |cons a r ih=>
        rintro k ⟨p,hp,e⟩
        obtain⟨i,z⟩:=a
        simp only[cG]
        split
        ·simp
        ·rename_i eJ
         simp only[mB]at hp
         rcases hp with rfl|hp
         ·exact absurd e eJ
         ·exact ih ⟨p,hp,e⟩
      exact this ⟨p,hp,rfl⟩ Q8
   ·refine .inr (.inr (.inr ⟨w,_,j0,f1,f2,hr,?_⟩))
    unfold HJ
    rw[sS]
    right
    exact w9.2 ⟨_,nE j0,by simp only[f1,f2];rfl⟩
 have Mk: ∀{id b},bH jI id=some b->pw Ls (jm Ls H1.bS jI) id=pi Ls id:=λhg=>kJ wd hg
 have kA: ∀{w b id x},bH jI w=some b->bH (eH B w b) id=some x->pw Ls (jm Ls H1.bS jI) id=pi Ls w+(id-w):=λ{w b id x}hg hx=>by
  obtain⟨f1,f2⟩:=eT hx
  exact FB wd hg f1 ((kd hg).2.2.1 f1) f2
 have hF1:xK B jI (okF (HJ rest) (df B ⟨jI++rest,bS⟩).heap) (pw Ls (jm Ls H1.bS jI)):=λw b hg id x hx=>by
  obtain⟨f1,f2⟩:=eT hx
  have nu:=iZ (s:=⟨jI++rest,bS⟩) w3 (HK hg) hx
  refine⟨?_,by rw[kA hg hx,Mk hg]⟩
  unfold okF
  rw[ib.2 ⟨_,nu⟩,Tg]
  rcases ss nu with⟨_,_,_,h⟩|⟨b',h,_,_⟩|⟨_,_,_,_,_,_,h⟩|⟨w',b',h,g1,g2,_,_⟩
  ·rw[h];rfl
  ·exfalso
   have:=iu (h:=jI++rest) (id:=id) (b':=b') w3 (HK hg) (by
    rw[cU]
    cases hq:bH jI id with
    |none=>exact h
    |some z=>rw[(kd hq).2.1]at h;cases h) f1
   rw[this]at f2;cases f2
  ·rw[h];rfl
  ·exfalso
   have hw':bH (jI++rest) w'=some b':=by
    rw[cU]
    cases hq:bH jI w' with
    |none=>exact h
    |some z=>rw[(kd hq).2.1]at h;cases h
   have:=lE w3 hw' (HK hg) g1 f1 g2 f2
   subst this
   rw[(kd hg).2.1]at h;cases h
 have hS: ∀{w b id x},bH jI w=some b->bH (eH B w b) id=some x-> ∃x',bH (df B H1).heap (pi Ls w+(id-w))=some x'/\Ai (okF (HJ rest) (df B ⟨jI++rest,bS⟩).heap) (pw Ls (jm Ls H1.bS jI)) x x'/\bH H1.heap (pi Ls w)=some b:=λ{w b id x}hg hx=>by
  obtain⟨f1,f2⟩:=eT hx
  obtain⟨c,cl,pre,n,post,rfl⟩:=lh f1
  obtain⟨b',q',g1,g2,g3⟩:=qc h2 e2 hg
  rw[Mk hg]at g1
  have:=wR g2 g3
  subst this
  obtain⟨x',pp,hc⟩:=tp (w':=pi Ls w) (λid x hx=>⟨(hF1 w _ hg id x hx).1,kA hg hx⟩) id x hx
  exact⟨x',iZ w1 g1 pp,hc,g1⟩
 refine⟨?_,?_,?_,?_,?_,?_,?_,b4,?_⟩
 ·intro id x hx
  rcases gH w0 hx with⟨b,hg,rfl⟩|⟨_,w,b,hg,hr⟩
  ·obtain⟨b',q',g1,g2,g3⟩:=yo h1 e1 hg
   exact⟨_,dj g1,B5 Sm g2 g3⟩
  ·obtain⟨r1,r2,r3⟩:=Js hg hr
   obtain⟨_,_,_,b',g1,g2⟩:=k0 hg
   have:=g2 r3
   subst this
   obtain⟨c,cl,pre,n,post,rfl⟩:=lh r3
   obtain⟨x',pp,hc⟩:=tp (w':=pi Lp w) (λid x hx=>⟨(Sm w _ hg id x hx).1,(Js hg hx).1⟩) id x hr
   exact⟨x',by rw[r1];exact iZ w2 g1 pp,hc⟩
 ·intro id fq x x' hx pp e
  rcases Xv hx with⟨b,b',g1,g2,g3⟩|⟨w,b,g1,f1,g2,g3,g4,g5⟩<;>rcases Xv pp with⟨b2,b2',ZC,Xw,Ri⟩|⟨w',b2,ZC,NR,Xw,Ri,g4',g5'⟩
  ·exact(k0 g1).2.2.1 ZC (by rw[<-g2,<-Xw,e])
  ·exfalso
   have:=iu w2 g4' g3 NR
   rw[<-g2,e,Ri,g5']at this;cases this
  ·exfalso
   have:=iu w2 g4 Ri f1
   rw[<-Xw,<-e,g3,g5]at this;cases this
  ·have hw:=lE w2 g4 g4' f1 NR g5 (by rw[<-g3,e,Ri];exact g5')
   have:=(k0 g1).2.2.1 ZC hw
   subst this
   obtain⟨o1,o2⟩:=eR (eT g2).2
   obtain⟨o3,o4⟩:=eR (eT Xw).2
   omega
 ·intro id x hx
  rcases gH w0 hx with⟨b,hg,rfl⟩|⟨_,w,b,hg,hr⟩
  ·exact(k0 hg).1
  ·obtain⟨_,r2,r3⟩:=Js hg hr
   have:=dM w5 hg
   simp only[r3,oe,GG]at this
   have:=sT this
   obtain⟨o1,o2⟩:=eR r2
   show id<H0.bS
   omega
 ·intro id x hx hf
  rcases ss hx with⟨b,hg,rfl,_⟩|⟨_,_,_,h⟩|⟨w,b,hg,f1,f2,hr,_⟩|⟨_,_,_,_,_,_,h⟩
  ·obtain⟨b',q',g1,g2,g3⟩:=qc h2 e2 hg
   refine⟨_,dj g1,B5 hF1 g2 g3,λhl=>?_⟩
   obtain⟨⟨b0,k1⟩,k2⟩:=(kd hg).2.2.2.1 hl
   rw[Mk hg]
   exact⟨ib.2 ⟨_,dj k1⟩,by rw[kJ w0 k1];exact k2⟩
  ·rw[h]at hf;cases hf
  ·obtain⟨x',q1,q2,q3⟩:=hS hg hr
   refine⟨x',by rw[kA hg hr];exact q1,q2,λhl=>?_⟩
   obtain⟨o1,o2⟩:=eR f2
   have uv:w<s.bS:=Nat.lt_trans o1 hl
   obtain⟨b1,b0,q',g1,g2,g3,g4⟩:=DR h3 e3 hg f1 uv
   rw[q3]at g1;cases g1
   obtain⟨c,cl,pre,n,post,rfl⟩:=lh f1
   have:=wR g3 g4
   subst this
   obtain⟨x2,P8,_⟩:=tp (w':=pi Ls w) (ok:=λ_=>true) (π:=λid=>pi Ls w+(id-w)) (λid x hx=>⟨rfl,rfl⟩) id x hr
   have k2:=((kd hg).2.2.2.1 uv).2
   rw[kA hg hr]
   refine⟨ib.2 ⟨_,iZ w0 g2 P8⟩,?_⟩
   rw[(Js g2 P8).1,k2]
   omega
  ·rw[h]at hf;cases hf
 ·intro id x hx hf
  rcases ss hx with⟨_,_,_,h⟩|⟨b,hg,rfl,_⟩|⟨_,_,_,_,_,_,h⟩|⟨w,b,hg,f1,f2,hr,_⟩
  ·rw[h]at hf;cases hf
  ·have hs:bH s.heap id=some b:=by subst vx;exact jr hg
   refine⟨dj hs,λi x' hi e=>?_⟩
   rcases Xv hi with⟨b',b2,g1,g2,g3⟩|⟨w',b',g1,NR,g2,g3,g4,g5⟩
   ·have:=dM b3 hg
    simp only[eW]at this
    have:=dM this.2 g1
    simp only[pC]at this
    exact zG this (by rw[<-g2,e])
   ·have:=iu w2 g4 hs NR
    rw[<-e,g3,g5]at this;cases this
  ·rw[h]at hf;cases hf
  ·have hs:bH s.heap w=some b:=by subst vx;exact jr hg
   refine⟨iZ w2 hs hr,λi x' hi e=>?_⟩
   rcases Xv hi with⟨b',b2,g1,g2,g3⟩|⟨w',b',g1,NR,g2,g3,g4,g5⟩
   ·have:=iu w2 hs g3 f1
    rw[<-g2,e,f2]at this;cases this
   ·have hw:=lE w2 g4 hs NR f1 (by rw[<-g3,e,g3]at *;exact g5) (by exact f2)
    have:=dM b3 hg
    simp only[eW]at this
    have:=dM this.2 g1
    simp only[pC]at this
    exact zG this hw
 ·intro id fq x x' hx pp hf sR e
  rcases ss hx with⟨b,hg,_,_⟩|⟨_,_,_,h⟩|⟨w,b,hg,f1,f2,hr,_⟩|⟨_,_,_,_,_,_,h⟩
  ·rcases ss pp with⟨b',j0,_,_⟩|⟨_,_,_,h⟩|⟨w',b',j0,NR,ZD,FA,_⟩|⟨_,_,_,_,_,_,h⟩
   ·exact(kd hg).2.2.2.2 j0 (by rw[<-Mk hg,<-Mk j0,e])
   ·rw[h]at sR;cases sR
   ·exfalso
    obtain⟨y,q1,_,q3⟩:=hS j0 FA
    obtain⟨b2,q',g1,_,_⟩:=qc h2 e2 hg
    rw[e,kA j0 FA]at g1
    have:=iu w1 q3 g1 NR
    obtain⟨o1,o2⟩:=eR ZD
    rw[kZ (by omega) (by omega)]at this;cases this
   ·rw[h]at sR;cases sR
  ·rw[h]at hf;cases hf
  ·rcases ss pp with⟨b',j0,_,_⟩|⟨_,_,_,h⟩|⟨w',b',j0,NR,ZD,FA,_⟩|⟨_,_,_,_,_,_,h⟩
   ·exfalso
    obtain⟨y,q1,_,q3⟩:=hS hg hr
    obtain⟨b2,q',g1,_,_⟩:=qc h2 e2 j0
    rw[<-e,kA hg hr]at g1
    have:=iu w1 q3 g1 f1
    obtain⟨o1,o2⟩:=eR f2
    rw[kZ (by omega) (by omega)]at this;cases this
   ·rw[h]at sR;cases sR
   ·obtain⟨y,_,_,q3⟩:=hS hg hr
    obtain⟨y',_,_,q3'⟩:=hS j0 FA
    rw[kA hg hr,kA j0 FA]at e
    obtain⟨o1,o2⟩:=eR f2
    obtain⟨o3,o4⟩:=eR ZD
    have hw:=lE (id:=pi Ls w+(id-w)) w1 q3 q3' f1 NR (kZ (by omega) (by omega)) (kZ (by omega) (by omega))
    have:=(kd hg).2.2.2.2 j0 hw
    subst this
    omega
   ·rw[h]at sR;cases sR
  ·rw[h]at hf;cases hf
 ·intro id x hx
  rcases ss hx with⟨b,hg,_,_⟩|⟨b,hg,_,_⟩|⟨w,b,hg,f1,f2,hr,_⟩|⟨w,b,hg,f1,f2,hr,_⟩
  ·exact(kd hg).1
  ·have:=dM b3 hg
   simp only[eW,qZ]at this
   exact this.1
  ·have:=dM w4 (HK hg)
   simp only[f1,oe,GG]at this
   have:=sT this
   obtain⟨o1,o2⟩:=eR f2
   show id<bS
   omega
  ·have j0:bH (jI++rest) w=some b:=by
    rw[cU]
    cases hq:bH jI w with
    |none=>exact hg
    |some z=>rw[(kd hq).2.1]at hg;cases hg
   have:=dM w4 j0
   simp only[f1,oe,GG]at this
   have:=sT this
   obtain⟨o1,o2⟩:=eR f2
   show id<bS
   omega
 ·intro id hd
  rcases gH w2 hd with⟨b,hg,hb⟩|⟨hn,w,b,hg,hr⟩
  ·have:=nH b5 id (by rw[fP,hg,gl,<-hb])
   simp only[df]
   rw[cU,this]
  ·exact(nI hr).elim
end
theorem Jt{f:FuncId}{cn args:List (TV B.S)}{H0 H1 s:dI B.S}{x:TV B.S}{Lp Lr:List (Nat×Nat)}{jI rest:List (Nat×TB B.S)}{ks:List Nat}(vx:rest=kG ks s.heap)
  (h:dJ P f (dV B.E cn) (df B H0) λy t=>y=x.er B.E/\t=df B H1)
  (hq: ∀p∈(oH B Lp Lr jI rest cn H0 x H1 args s).2.2,p.1=p.2):dJ P f (dV B.E args) (df B s) λy t=>y=(oH B Lp Lr jI rest cn H0 x H1 args s).1.er B.E/\t=df B (oH B Lp Lr jI rest cn H0 x H1 args s).2.1:=by
 unfold oH at hq |-
 simp only at hq |-
 cases hb:Dr B Lp (tH H1.heap Lr) H0 H1 s jI rest (s.bS+(H1.bS-H0.bS))with
 |false=>
  rw[hb]at hq
  have:=hq (.any,.ij) (by simp)
  cases this
 |true=>
  rw[hb]at hq
  simp only[cond_true]at hq
  split at hq
  ·rename_i q h1
   obtain⟨⟨q1,a1,e1⟩,q2,h2,e2⟩:=fQ h1 hq
   obtain⟨⟨q3,a2,e3⟩,q4,h3,e4⟩:=fQ h2 e2
   obtain⟨⟨q5,a3,e5⟩,q6,h4,e6⟩:=fQ h3 e4
   obtain⟨⟨q7,a4,e7⟩,q8,a5,e8⟩:=fQ h4 e6
   exact BA h (Hl vx hb a3 e5 a4 e7 a5 e8) (mn (λ_ _ _=>jz) a1 e1) (jz a2 e3)
  ·have:=hq (.any,.ij) (by simp)
   cases this
theorem Ds{f:FuncId}{cn args:List (TV B.S)}{H0 H1 s:dI B.S}{x:TV B.S}(h:dJ P f (dV B.E cn) (df B H0) λy t=>y=x.er B.E/\t=df B H1)
 (hq: ∀p∈(eI B cn H0 x H1 args s).2.2,p.1=p.2):dJ P f (dV B.E args) (df B s) λy t=>y=(eI B cn H0 x H1 args s).1.er B.E/\t=df B (eI B cn H0 x H1 args s).2.1:=Jt rfl h hq
def dA(B:iP)(P:Program)(M:TM B.S):Option (FuncId×List (TV B.S)):=match M.o with
 |.ro l _=>(match l with
  |i::_=>match EU B i.guard M.bI with
   |.go=>Ca P i.op M.bI
   |_=>none
  | []=>none)
 |.rd l _ _=>(match l with
  |⟨.gW _ _,some i,sl⟩::_=>match EU B i.guard M.bI with
   |.go=>Ca P i.op (nb sl M.bI)
   |_=>none
  |_=>none)
 |_=>none
def RJ{S:Nat->Type}(o:Option (FuncId×List (TV S))):Option FuncId:=o.map (·.1)
def mZ{S:Nat->Type}(o:Option (FuncId×List (TV S))):List (TV S):=match o with
 |some (_,l)=>l
 |none=>[]
def jD(B:iP)(P:Program)(M:TM B.S)(s':dI B.S):iH:=match M.o with
 |.rd l n _=>(match l with
  |⟨.gW _ c,_,_⟩::_=>(match DA B P false n s' c with
   |some q=>q
   |none=>[(.any,.ij)])
  |_=>[])
 |_=>[]
def rm(B:iP)(M:TM B.S)(v:TV B.S)(s':dI B.S):TM B.S:=match M.o with
 |.ro (i::l) y=>⟨.ro l y,M.k,iR i.dst v M.bI,s'⟩
 |.rd (⟨_,some i,_⟩::l) n y=>⟨.rd l (vE B n) y,M.k,iR i.dst v M.bI,s'⟩
 |_=>M
theorem AF{op:Op}{bI:dD B.S}{g:FuncId}{l:List (TV B.S)}{s:St}{K:AV->St->Prop}(h:Ca P op bI=some (g,l))(hp:dJ P g (dV B.E l) s K):ows P op K (ez B bI) s:=by
 unfold Ca at h
 unfold ows
 split at h
 ·rename_i f a hc
  split at h
  ·rename_i g' fH hf
   split at h
   ·rename_i l' hl
    cases he:enters P g' with
    |false=>simp[he]at h
    |true=>
     simp only[he,cond_true]at h
     cases h
     simp only[hc,ec,hf,gl,kO,hl,TV.er]
     rw[sd]at hp
     exact⟨he,hp⟩
   ·cases h
  ·cases h
 ·cases h
theorem Ju{ρ:Option Nat}{g:FuncId}{l:List (TV B.S)}{v:TV B.S}{s':dI B.S}(h:dA B P M=some (g,l))(hp:dJ P g (dV B.E l) (df B M.s) λy t=>y=v.er B.E/\t=df B s')(hq: ∀p∈jD B P M s',p.1=p.2)
  (hk:ki B P N ρ Q (rm B M v s')):ki B P N ρ Q M:=by
 obtain⟨o,k,bI,s⟩:=M
 unfold dA at h
 split at h
 ·rename_i l0 y ho
  simp only at ho;subst ho
  split at h
  ·rename_i i l1
   split at h
   ·rename_i hg
    show EP _ _ _ _
    refine xP (B:=B) ?_
    simp only at hg
    rw[hg]
    have hk:pW P (YK P N ρ Q k y) l1 (ez B (iR i.dst v bI)) (df B s'):=hk
    rw[ic]at hk
    exact .inl (AF h (hp.mono λy t ⟨e1,e2⟩=>by subst e1;subst e2;exact hk))
   ·cases h
  ·cases h
 ·rename_i l0 n y ho
  simp only at ho;subst ho
  split at h
  ·rename_i j c i sl l1
   split at h
   ·rename_i hg
    intro hn
    show ES _ _ _ _
    refine qC (B:=B) ?_
    simp only at hg
    rw[hg]
    have hk:dq P (YK P N ρ Q k y) l1 (uQ B (vE B n)) (ez B (iR i.dst v bI)) (df B s'):=hk (qE hn)
    rw[ic,qF]at hk
    have hc:wg P (uQ B n) (df B s') c:=by
     unfold jD at hq
     simp only at hq
     split at hq
     ·rename_i q hc
      exact mK hn (λe=>by cases e) hc hq
     ·have:=hq (.any,.ij) (by simp);cases this
    have:=AF (K:=λv s'=>wg P (uQ B n) s' c/\dq P (YK P N ρ Q k y) l1 (uQ B n) (fp i.dst v (ez B bI)) s') h (hp.mono λy t ⟨e1,e2⟩=>by subst e1;subst e2;exact⟨hc,hk⟩)
    rw[nK]at this
    exact this
   ·cases h
  ·cases h
 ·cases h
theorem uR{a:α}{g:FuncId}{cn:List (TV B.S)}{H0:dI B.S}{X:α->TV B.S}{H1:α->dI B.S}(hf:cP B P g cn H0 X H1 a)
  (k:RT B P N ρ Q (rm B (G B P N M).1 (eI B cn H0 (X a) (H1 a) (mZ (dA B P (G B P N M).1)) (G B P N M).1.s).1 (eI B cn H0 (X a) (H1 a) (mZ (dA B P (G B P N M).1)) (G B P N M).1.s).2.1))
  (hx:(RJ (dA B P (G B P N M).1),(eI B cn H0 (X a) (H1 a) (mZ (dA B P (G B P N M).1)) (G B P N M).1.s).2.2.map Prod.fst,(jD B P (G B P N M).1 (eI B cn H0 (X a) (H1 a) (mZ (dA B P (G B P N M).1)) (G B P N M).1.s).2.1).map Prod.fst,(G B P N M).2.map Prod.fst)=
   (some g,(eI B cn H0 (X a) (H1 a) (mZ (dA B P (G B P N M).1)) (G B P N M).1.s).2.2.map Prod.snd,(jD B P (G B P N M).1 (eI B cn H0 (X a) (H1 a) (mZ (dA B P (G B P N M).1)) (G B P N M).1.s).2.1).map Prod.snd,(G B P N M).2.map Prod.snd)):RT B P N ρ Q M:=by
 simp only[Prod.mk.injEq]at hx
 obtain⟨h0,h1,h2,h3⟩:=hx
 refine rk h3 ⟨?_⟩
 have hk:=k.v
 generalize(G B P N M).1=m at *
 cases hc:dA B P m with
 |none=>rw[hc]at h0;cases h0
 |some p=>
  obtain⟨g',l⟩:=p
  rw[hc]at h0 h1 h2 hk
  cases h0
  exact Ju hc (Ds hf (dQ h1)) (dQ h2) hk
theorem cB{o:Option α}{K:α->Option β}{g:FuncId}{cn:List (TV B.S)}{H0:dI B.S}{X:α->TV B.S}{H1:α->dI B.S}(h:o.bind K=some r)(hf: ∀a,o=some a->cP B P g cn H0 X H1 a)
  (k: ∀a,o=some a->K a=some r->RT B P N ρ Q (rm B (G B P N M).1 (eI B cn H0 (X a) (H1 a) (mZ (dA B P (G B P N M).1)) (G B P N M).1.s).1 (eI B cn H0 (X a) (H1 a) (mZ (dA B P (G B P N M).1)) (G B P N M).1.s).2.1))
  (hx: ∀a,(RJ (dA B P (G B P N M).1),(eI B cn H0 (X a) (H1 a) (mZ (dA B P (G B P N M).1)) (G B P N M).1.s).2.2.map Prod.fst,(jD B P (G B P N M).1 (eI B cn H0 (X a) (H1 a) (mZ (dA B P (G B P N M).1)) (G B P N M).1.s).2.1).map Prod.fst,(G B P N M).2.map Prod.fst)=
   (some g,(eI B cn H0 (X a) (H1 a) (mZ (dA B P (G B P N M).1)) (G B P N M).1.s).2.2.map Prod.snd,(jD B P (G B P N M).1 (eI B cn H0 (X a) (H1 a) (mZ (dA B P (G B P N M).1)) (G B P N M).1.s).2.1).map Prod.snd,(G B P N M).2.map Prod.snd):=by intro a;kernel_rfl):RT B P N ρ Q M:=
 let⟨a,ha,hK⟩:=ml h
 uR (hf a ha) (k a ha hK) (hx a)
theorem Ml{tA:Type}{o:Option (α⊕tA)}{K:α->Option β}{K':tA->Option β}{g:FuncId}{cn:List (TV B.S)}{H0:dI B.S}{X:α->TV B.S}{X':tA->TV B.S}{H1:α->dI B.S}{lT:tA->dI B.S}(h:o.bind (Sum.elim K K')=some r)
  (hf: ∀a,o=some a->cP B P g cn H0 (Sum.elim X X') (Sum.elim H1 lT) a)
  (k: ∀a,o=some (.inl a)->K a=some r->RT B P N ρ Q (rm B (G B P N M).1 (eI B cn H0 (X a) (H1 a) (mZ (dA B P (G B P N M).1)) (G B P N M).1.s).1 (eI B cn H0 (X a) (H1 a) (mZ (dA B P (G B P N M).1)) (G B P N M).1.s).2.1))
  (k': ∀a,o=some (.inr a)->K' a=some r->RT B P N ρ Q (rm B (G B P N M).1 (eI B cn H0 (X' a) (lT a) (mZ (dA B P (G B P N M).1)) (G B P N M).1.s).1 (eI B cn H0 (X' a) (lT a) (mZ (dA B P (G B P N M).1)) (G B P N M).1.s).2.1))
  (hx: ∀a,(RJ (dA B P (G B P N M).1),(eI B cn H0 (X a) (H1 a) (mZ (dA B P (G B P N M).1)) (G B P N M).1.s).2.2.map Prod.fst,(jD B P (G B P N M).1 (eI B cn H0 (X a) (H1 a) (mZ (dA B P (G B P N M).1)) (G B P N M).1.s).2.1).map Prod.fst,(G B P N M).2.map Prod.fst)=
   (some g,(eI B cn H0 (X a) (H1 a) (mZ (dA B P (G B P N M).1)) (G B P N M).1.s).2.2.map Prod.snd,(jD B P (G B P N M).1 (eI B cn H0 (X a) (H1 a) (mZ (dA B P (G B P N M).1)) (G B P N M).1.s).2.1).map Prod.snd,(G B P N M).2.map Prod.snd):=by intro a;kernel_rfl)
  (pp: ∀a,(RJ (dA B P (G B P N M).1),(eI B cn H0 (X' a) (lT a) (mZ (dA B P (G B P N M).1)) (G B P N M).1.s).2.2.map Prod.fst,(jD B P (G B P N M).1 (eI B cn H0 (X' a) (lT a) (mZ (dA B P (G B P N M).1)) (G B P N M).1.s).2.1).map Prod.fst,(G B P N M).2.map Prod.fst)=
   (some g,(eI B cn H0 (X' a) (lT a) (mZ (dA B P (G B P N M).1)) (G B P N M).1.s).2.2.map Prod.snd,(jD B P (G B P N M).1 (eI B cn H0 (X' a) (lT a) (mZ (dA B P (G B P N M).1)) (G B P N M).1.s).2.1).map Prod.snd,(G B P N M).2.map Prod.snd):=by intro a;kernel_rfl):RT B P N ρ Q M:=by
 obtain⟨a,ha,hK⟩:=ml h
 cases a with
 |inl a=>
  have tD:cP B P g cn H0 X H1 a:=hf (.inl a) ha
  exact uR tD (k a ha hK) (hx a)
 |inr a=>
  have tD:cP B P g cn H0 X' lT a:=hf (.inr a) ha
  exact uR tD (k' a ha hK) (pp a)
end
end Go.Am
