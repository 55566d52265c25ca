/- The logic AM, V: a machine on typed states, that stops where something is to be known; it is sound. -/
import Derived.Test.YtpbahncblggodaaGreatAmU
set_option linter.all false
namespace Go.Am
open Go.RowKit
structure nN (S:Nat->Type) where
 i:Nat
 op:Op
 e:dD S
 v:TV S
 ok:Bool
inductive TO (S:Nat->Type) where
 |run (c:Code)
 |out (e:Exit)
 |ro (l:List Ins) (y:Option Code)
 |po (r:TR S) (d:Option Nat) (l:List Ins) (y:Option Code)
 |rd (l:List DI) (n:List (nN S)) (y:Option Code)
 |pl (r:TR S) (i:Nat) (b:Bool) (op:Op) (e:dD S) (d:Option Nat) (l:List DI) (n:List (nN S)) (y:Option Code)
 |ph (r:TR S) (c:List Nat) (d:Option Nat) (l:List DI) (n:List (nN S)) (y:Option Code)
structure TM (S:Nat->Type) where
 o:TO S
 k:List Fr
 bI:dD S
 s:dI S
def iR{S:Nat->Type}(d:Option Nat)(v:TV S)(bI:dD S):dD S:=match d with
 |some d=>dT bI d v
 |none=>bI
def nb{S:Nat->Type}:List Nat->dD S->dD S
 | [],_=>[]
 |t::r,bI=>match bH bI t with
  |some x=>(t,x)::nb r bI
  |none=>nb r bI
inductive GD where
 |go
 |skip
 |ask (d:Nat) (b:Bool)
 |no
def qL{S:Nat->Type}:TV S->Bool
 |.dW []=>true
 |.a (.dW [])=>true
 |_=>false
section
variable (B:iP)
def EU(g:Option (Nat×Bool))(bI:dD B.S):GD:=match g with
 |none=>.go
 |some (d,want)=>match bH bI d with
  |some v=>match JY B v with
   |some (st,b)=>bif st then(bif (b==want)then .go else .skip)else .ask d b
   |none=>bif qL v then .skip else .no
  |none=>.no
def Zk:Op->Bool
 |.assign _=>true
 |.move _=>true
 |.store _ _ _=>true
 |_=>false
def Qj(d:Nat)(i:Ins):Bool:=(Hb i.op).any λx=>Nat.beq x d
def Zl(i:Ins)(l:List Ins):Bool:=match i.op with
 |.buildSlice _ len _=>match i.dst,i.guard with
  |some d,none=>!(Nat.beq len 0)&&l.any (Qj d)&&l.all (λj=>!(Qj d j)||Zk j.op)
  |_,_=>false
 |_=>false
def Zm{S:Nat->Type}:TV S->Bool
 |.s _ _=>false
 |_=>true
def noS{S:Nat->Type}(bI:dD S)(op:Op):Bool:=match op with
 |.buildSlice _ _ cu=>(match se bI cu.toList with
  |some l=>l.all λp=>Zm p.2
  |none=>true)
 |_=>true
def Ax{S:Nat->Type}:List (nN S)->Nat->Option (nN S)
 | [],_=>none
 |t::r,i=>bif Nat.beq t.i i then some t else Ax r i
def LO(P:Program)(t:nN B.S)(s:dI B.S):Option (List (AV×AV)):=match top B P false t.op t.e s with
 |.ok v _=>some [(v.er B.E,t.v.er B.E)]
 |_=>none
def Vu(op:Op)(bI:Env):Bool:=match op with
 |.indexAddr _ x _=>(match oper bI x with
  |some (.sl _ _)=>true
  |some (.ip _)=>true
  |_=>false)
 |.load _ x=>(match oper bI x with
  |some (.ip _)=>true
  |_=>false)
 |op=>jR op
theorem LP{P:Program}{op:Op}{bI:Env}{s s2:St}{x:AV}(hf:Vu op bI=true)(h:iL P op bI s=some (x,s)):iL P op bI s2=some (x,s2):=by
 unfold Vu at hf
 split at hf
 ·rename_i t y i
  simp only[iL]at h |-
  split at hf
  ·rename_i b l hy
   simp only[hy]at h |-
   cases hi:oper bI i with
   |none=>rw[hi]at h;cases h
   |some n=>
    simp only[hi]at h |-
    have e:eM P t (.sl b l) n s=eM P t (.sl b l) n s2:=by cases n<;>rfl
    rw[e]at h
    obtain⟨h,_⟩:=dF h
    simp[gg,h]
  ·rename_i l hy
   simp only[hy]at h |-
   cases hi:oper bI i with
   |none=>rw[hi]at h;cases h
   |some n=>
    simp only[hi]at h |-
    have e:eM P t (.ip l) n s=eM P t (.ip l) n s2:=by cases n<;>rfl
    rw[e]at h
    obtain⟨h,_⟩:=dF h
    simp[gg,h]
  ·cases hf
 ·rename_i t y
  simp only[iL]at h |-
  split at hf
  ·rename_i l hy
   simp only[hy]at h |-
   have e:oX P t (.ip l) s=oX P t (.ip l) s2:=rfl
   rw[e]at h
   obtain⟨h,_⟩:=dF h
   simp[gg,h]
  ·cases hf
 ·exact mi hf h
def DA(P:Program)(same:Bool)(n:List (nN B.S))(s:dI B.S):List Nat->Option (List (AV×AV))
 | []=>some []
 |j::r=>match Ax n j with
  |none=>DA P same n s r
  |some t=>bif (same||Vu t.op (ez B t.e))&&t.ok then DA P same n s r else match LO B P t s with
   |some q=>match DA P same n s r with
    |some q2=>some (q++q2)
    |none=>none
   |none=>none
def vE(n:List (nN B.S)):List (nN B.S):=n.map λt=>⟨t.i,t.op,t.e,t.v,t.ok&&Vu t.op (ez B t.e)⟩
def uQ(n:List (nN B.S)):List (Nat×Op×Env×AV):=n.map λt=>(t.i,t.op,ez B t.e,t.v.er B.E)
def qb(P:Program)(N:Nat)(ops:Array Oper)(d:Bool)(y:Option Code):Option (TO B.S):=match d with
 |false=>bif nA ops.toList&&pN N ops.toList then some (.ro (ins ops.toList) y)else none
 |true=>match Hw ops.toList with
  |(pre,st)=>bif KU P N ops.toList pre st&&(Ro (ins ops.toList) st).all J3&&P.follows .mixedOrders then some (.rd (Ro (ins ops.toList) st) [] y)else none
abbrev SR(S:Nat->Type):=Option (TM S×List (AV×AV))
def BT(P:Program)(N:Nat)(c:Code)(k:List Fr)(bI:dD B.S)(s:dI B.S):SR B.S:=match c with
 |.seq x y=>match x with
  |.region _ ops d=>match qb B P N ops d (some y)with
   |some o=>some (⟨o,k,bI,s⟩,[])
   |none=>none
  |x=>some (⟨.run x,.seq y::k,bI,s⟩,[])
 |.region _ ops d=>match qb B P N ops d none with
  |some o=>some (⟨o,k,bI,s⟩,[])
  |none=>none
 |.block id x=>some (⟨.run x,.blk id::k,bI,s⟩,[])
 |.skip=>some (⟨.out .normal,k,bI,s⟩,[])
 |.exit id=>some (⟨.out (.exit id),k,bI,s⟩,[])
 |.scope x=>some (⟨.run x,.sc::k,bI,s⟩,[])
 |.label _=>some (⟨.out .normal,k,bI,s⟩,[])
 |.ret=>some (⟨.out .ret,k,bI,s⟩,[])
 |.cond t x y=>match eX bI t with
  |some v=>match JY B v with
   |some (st,b)=>bif st then some (⟨.run (bif b then x else y),k,bI,s⟩,[])else none
   |none=>none
  |none=>none
 |_=>none
def BU(e:Exit)(k:List Fr)(bI:dD B.S)(s:dI B.S):SR B.S:=match k with
 | []=>none
 |fr::k=>match fr with
  |.seq y=>match e with
   |.normal=>some (⟨.run y,k,bI,s⟩,[])
   |e=>some (⟨.out e,k,bI,s⟩,[])
  |.blk id=>match e with
   |.exit j=>bif Nat.beq j id then some (⟨.out .normal,k,bI,s⟩,[])else some (⟨.out (.exit j),k,bI,s⟩,[])
   |e=>some (⟨.out e,k,bI,s⟩,[])
  |.lp _ _=>none
  |.sc=>match e with
   |.goto _=>none
   |e=>some (⟨.out e,k,bI,s⟩,[])
def BV{S:Nat->Type}(y:Option Code):TO S:=match y with
 |some c=>.run c
 |none=>.out .normal
def LQ(P:Program)(l:List Ins)(y:Option Code)(k:List Fr)(bI:dD B.S)(s:dI B.S):SR B.S:=match l with
 | []=>some (⟨BV y,k,bI,s⟩,[])
 |i::l=>match EU B i.guard bI with
  |.go=>bif (fS i.op).isSome then none else some (⟨.po (top B P (Zl i l&&noS bI i.op) i.op bI s) i.dst l y,k,bI,s⟩,[])
  |.skip=>some (⟨.ro l y,k,iR i.dst (.dW []) bI,s⟩,[])
  |_=>none
def LR(P:Program)(l:List DI)(n:List (nN B.S))(y:Option Code)(k:List Fr)(bI:dD B.S)(s:dI B.S):SR B.S:=match l with
 | []=>some (⟨BV y,k,bI,s⟩,[])
 |⟨st,some i,sl⟩::l=>match st with
  |.ig j b=>match EU B i.guard bI with
   |.go=>bif fN i.op then some (⟨.pl (top B P false i.op (nb sl bI) s) j b i.op (nb sl bI) i.dst l n y,k,bI,s⟩,[])else none
   |.skip=>some (⟨.rd l n y,k,iR i.dst (.dW []) bI,s⟩,[])
   |_=>none
  |.gW _ c=>match EU B i.guard bI with
   |.go=>bif (fS i.op).isSome then none else some (⟨.ph (top B P false i.op (nb sl bI) s) c i.dst l n y,k,bI,s⟩,[])
   |.skip=>some (⟨.rd l n y,k,iR i.dst (.dW []) bI,s⟩,[])
   |_=>none
  |.alloc _=>match top B P false i.op [] s with
   |.ok v s'=>bif (fS i.op).isSome then none else some (⟨.rd l (vE B n) y,k,iR i.dst v bI,s'⟩,[])
   |_=>none
 |⟨_,none,_⟩::_=>none
def stepT(P:Program)(N:Nat)(M:TM B.S):SR B.S:=match M.o with
 |.run c=>BT B P N c M.k M.bI M.s
 |.out e=>BU B e M.k M.bI M.s
 |.ro l y=>LQ B P l y M.k M.bI M.s
 |.po r d l y=>match r with
  |.ok v s'=>some (⟨.ro l y,M.k,iR d v M.bI,s'⟩,[])
  |.eq a b r=>some (⟨.po r d l y,M.k,M.bI,M.s⟩,[(a,b)])
  |_=>none
 |.rd l n y=>LR B P l n y M.k M.bI M.s
 |.pl r i b op e d l n y=>match r with
  |.ok v _=>some (⟨.rd l (bif b then⟨i,op,e,v,true⟩::n else n) y,M.k,iR d v M.bI,M.s⟩,[])
  |.eq a b' r=>some (⟨.pl r i b op e d l n y,M.k,M.bI,M.s⟩,[(a,b')])
  |_=>none
 |.ph r c d l n y=>match r with
  |.ok v s'=>match DA B P false n s' c with
   |some q=>some (⟨.rd l (vE B n) y,M.k,iR d v M.bI,s'⟩,q)
   |none=>none
  |.eq a b r=>some (⟨.ph r c d l n y,M.k,M.bI,M.s⟩,[(a,b)])
  |_=>none
def jU{S:Nat->Type}:TO S->Bool
 |.run _=>true
 |.out _=>true
 |_=>false
def yi{S:Nat->Type}:TO S->Bool
 |.run _=>true
 |_=>false
def R0{S:Nat->Type}:TO S->Bool
 |.out .normal=>true
 |_=>false
def Qk{α:Type}:List α->Nat->Bool
 | [],_=>true
 |_::_,0=>false
 |_::r,n+1=>Qk r n
def noU{S:Nat->Type}(_:TM S):Bool:=false
def Ql{S:Nat->Type}(run:Bool)(n:Nat)(M:TM S):Bool:=Qk M.k n&&(bif run then yi M.o else R0 M.o)
def Zn{S:Nat->Type}(id:Nat)(M:TM S):Bool:=match M.o with
 |.run c=>(match c with
  |.seq (.region i _ _) _=>Nat.beq i id
  |.region i _ _=>Nat.beq i id
  |_=>false)
 |_=>false
def R1(P:Program)(N:Nat)(u:TM B.S->Bool):Nat->TM B.S->TM B.S×List (AV×AV)
 |0,M=>(M,[])
 |f+1,M=>bif u M then(M,[])else match stepT B P N M with
  |some (M',q)=>(match R1 P N u f M' with
   |(M2,q2)=>(M2,q++q2))
  |none=>(M,[])
end
section
variable {B:iP} {P:Program} {N:Nat} {ρ:Option Nat} {Q:Exit->Env->St->Prop}
def Qm(B:iP)(P:Program)(s:dI B.S)(n:List (nN B.S)):Prop:= ∀t∈n,fN t.op=true/\(t.ok=true->iL P t.op (ez B t.e) (df B s)=some (t.v.er B.E,df B s))
def YK(P:Program)(N:Nat)(ρ:Option Nat)(Q:Exit->Env->St->Prop)(k:List Fr):Option Code->Env->St->Prop
 |some y=>lA P N ρ y (QK P N ρ Q k)
 |none=>λbI s=>wj P N ρ Q ⟨.out .normal,k,bI,s⟩
def ki(B:iP)(P:Program)(N:Nat)(ρ:Option Nat)(Q:Exit->Env->St->Prop)(M:TM B.S):Prop:=match M.o with
 |.run c=>wj P N ρ Q ⟨.run c,M.k,ez B M.bI,df B M.s⟩
 |.out e=>wj P N ρ Q ⟨.out e,M.k,ez B M.bI,df B M.s⟩
 |.ro l y=>pW P (YK P N ρ Q M.k y) l (ez B M.bI) (df B M.s)
 |.po r d l y=>r.wp λv s'=>pW P (YK P N ρ Q M.k y) l (fp d (v.er B.E) (ez B M.bI)) (df B s')
 |.rd l n y=>Qm B P M.s n->dq P (YK P N ρ Q M.k y) l (uQ B n) (ez B M.bI) (df B M.s)
 |.pl r i b op e d l n y=>fN op=true->lB B r (iL P op (ez B e) (df B M.s))->Qm B P M.s n->match iL P op (ez B e) (df B M.s)with
  |some (v,_)=>dq P (YK P N ρ Q M.k y) l (if b then(i,op,ez B e,v)::uQ B n else uQ B n) (fp d v (ez B M.bI)) (df B M.s)
  |none=>False
 |.ph r c d l n y=>Qm B P M.s n->r.wp λv s'=>wg P (uQ B n) (df B s') c/\dq P (YK P N ρ Q M.k y) l (uQ B n) (fp d (v.er B.E) (ez B M.bI)) (df B s')
structure RT (B:iP) (P:Program) (N:Nat) (ρ:Option Nat) (Q:Exit->Env->St->Prop) (M:TM B.S):Prop where
 v:ki B P N ρ Q M
theorem ic{d:Option Nat}{v:TV B.S}{bI:dD B.S}:ez B (iR d v bI)=fp d (v.er B.E) (ez B bI):=by
 cases d with
 |none=>rfl
 |some d=>exact wK
theorem nK{sl:List Nat}{bI:dD B.S}:ez B (nb sl bI)=iF sl (ez B bI):=by
 induction sl with
 |nil=>rfl
 |cons t r ih=>
  rw[Fs,k7]
  simp only[nb]
  cases bH bI t with
  |none=>exact ih
  |some x=>simp only[ez,gl,ih]
theorem xP{g:Option (Nat×Bool)}{bI:dD B.S}{A C:Prop}(h:match EU B g bI with
  |.go=>A
  |.skip=>C
  |_=>False):EP g (ez B bI) A C:=by
 unfold EU at h
 unfold EP
 cases g with
 |none=>exact h
 |some q=>
  obtain⟨d,want⟩:=q
  simp only at h |-
  rw[k7]
  cases hv:bH bI d with
  |none=>rw[hv]at h;exact h.elim
  |some v=>
   rw[hv]at h
   simp only[gl]at h |-
   cases hb:JY B v with
   |none=>
    rw[hb]at h
    simp only at h
    cases hn:qL v with
    |false=>rw[hn]at h;exact h.elim
    |true=>
     rw[hn]at h
     have:v.er B.E=.dW []:=by
      unfold qL at hn
      split at hn<;>first|rfl|cases hn
     rw[this];exact h
   |some p=>
    obtain⟨st,b⟩:=p
    rw[hb]at h
    simp only at h
    cases st with
    |false=>exact h.elim
    |true=>
     rw[sf hb]
     simp only[cond_true]at h |-
     cases b<;>cases want<;>simp_all
theorem qC{g:Option (Nat×Bool)}{bI:dD B.S}{A C:Env->Prop}(h:match EU B g bI with
  |.go=>A (ez B bI)
  |.skip=>C (ez B bI)
  |_=>False):ES g (ez B bI) A C:=by
 unfold EU at h
 unfold ES
 cases g with
 |none=>exact h
 |some q=>
  obtain⟨d,want⟩:=q
  simp only at h |-
  have hg:=k7 (B:=B) (bI:=bI) (t:=d)
  rw[hg]
  cases hv:bH bI d with
  |none=>rw[hv]at h;exact h.elim
  |some v=>
   rw[hv]at h hg
   simp only[gl]at h hg |-
   cases hb:JY B v with
   |none=>
    rw[hb]at h
    simp only at h
    cases hn:qL v with
    |false=>rw[hn]at h;exact h.elim
    |true=>
     rw[hn]at h
     have:v.er B.E=.dW []:=by
      unfold qL at hn
      split at hn<;>first|rfl|cases hn
     rw[this];exact h
   |some p=>
    obtain⟨st,b⟩:=p
    rw[hb]at h
    simp only at h
    cases st with
    |false=>exact h.elim
    |true=>
     rw[sf hb]at hg |-
     have key: ∀c,b=c->dT (ez B bI) d (.bool c)=ez B bI:=λc e=>by subst e;exact nC hg
     simp only[cond_true]at h |-
     refine⟨λe=>?_,λe=>?_⟩
     ·rw[key _ e];subst e;simpa using h
     ·rw[key _ e];subst e
      have:((!want)==want)=false:=by cases want<;>rfl
      rw[this]at h;exact h
theorem yj{op:Op}(h:fN op=true):fS op=none:=by
 cases op<;>simp only[fN]at h<;>first|rfl|(cases h;done)|skip
 rename_i c
 obtain⟨callee,a,t⟩:=c
 cases callee<;>first|rfl|(simp at h)
theorem R2{op:Op}{own:Bool}{bI:dD B.S}{s:dI B.S}{K:TV B.S->dI B.S->Prop}{K':AV->St->Prop}(hc:fS op=none)(hk: ∀v s',K v s'->K' (v.er B.E) (df B s'))(h:(top B P own op bI s).wp K):Om P op K' (ez B bI) (df B s):=by
 have bQ:(top B P false op bI s).wp K->Om P op K' (ez B bI) (df B s):=λh=>by
  obtain⟨v,s',e,hK⟩:=yh (B:=B) (P:=P) hc K h
  refine .inl ?_
  unfold ows
  simp only[hc,e]
  exact hk v s' hK
 cases own with
 |false=>exact bQ h
 |true=>
  have same:(∃t len cu,op=.buildSlice t len cu)\/top B P true op bI s=top B P false op bI s:=by
   cases op<;>first|exact .inr rfl|exact .inl ⟨_,_,_,rfl⟩|skip
   rename_i fn _ _
   cases fn<;>exact .inr rfl
  rcases same with⟨t,len,cu,rfl⟩|e
  case inr=>rw[e]at h;exact bQ h
  refine .inr (.inl ?_)
  simp only[top]at h
  split at h
  ·rename_i l hl
   have:=qa (B:=B) (P:=P) (s:=s) (t:=t) (len:=len) (own:=true) (cu:=l) K h
   obtain⟨v,s',e,hK⟩:=this
   refine⟨v.er B.E,df B s',?_,hk v s' hK⟩
   simp only[cond_true]at e
   simp only[Fv,qK,hl,gl]
   rw[<-e]
   simp only[mA,df]
   cases fR P t len (List.map (λp=>(p.fst,TV.er B.E p.snd)) l)with
   |none=>rfl
   |some _=>cases dU P t<;>rfl
  ·exact h.elim
theorem LS{n:List (nN B.S)}{j:Nat}:Ah (uQ B n) j=(Ax n j).map λt=>(t.op,ez B t.e,t.v.er B.E):=by
 induction n with
 |nil=>rfl
 |cons t r ih=>
  simp only[uQ,wy,Ah,Ax]
  by_cases h:t.i=j
  ·rw[if_pos h];subst h;rw[show Nat.beq t.i t.i=true from Nu _];rfl
  ·rw[if_neg h]
   have:Nat.beq t.i j=false:=by
    cases hq:Nat.beq t.i j with
    |false=>rfl
    |true=>exact absurd (iU hq) h
   rw[this];exact ih
theorem Jm{S:Nat->Type}{n:List (nN S)}{j:Nat}{t:nN S}(h:Ax n j=some t):t∈n:=by
 induction n with
 |nil=>cases h
 |cons a r ih=>
  simp only[Ax]at h
  cases hq:Nat.beq a.i j with
  |true=>rw[hq]at h;cases h;simp
  |false=>rw[hq]at h;exact Iv _ (ih h)
theorem LU{t:nN B.S}{s:dI B.S}{q:List (AV×AV)}(h:LO B P t s=some q)(hq: ∀p∈q,p.1=p.2)(hl:fN t.op=true):iL P t.op (ez B t.e) (df B s)=some (t.v.er B.E,df B s):=by
 unfold LO at h
 split at h
 ·rename_i v s2 ht
  cases h
  obtain⟨v',s',e,e1,e2⟩:=yh (B:=B) (P:=P) (s:=s) (op:=t.op) (bI:=t.e) (yj hl) (λa b=>a=v/\b=s2) (by rw[ht];exact⟨rfl,rfl⟩)
  subst e1;subst e2
  have hv:v'.er B.E=t.v.er B.E:=hq (v'.er B.E,t.v.er B.E) (by simp)
  rw[e,oA hl e,hv]
 ·cases h
theorem mK{same:Bool}{n:List (nN B.S)}{s s0:dI B.S}(hl:Qm B P s0 n)(hs:same=true->Qm B P s n): ∀{c:List Nat}{q:List (AV×AV)},DA B P same n s c=some q->(∀p∈q,p.1=p.2)->wg P (uQ B n) (df B s) c
 | [],_,_,_=>trivial
 |j::r,q,h,hq=>by
  unfold DA at h
  unfold wg
  rw[LS]
  split at h
  ·rename_i hf
   rw[hf]
   exact⟨trivial,mK hl hs h hq⟩
  ·rename_i t hf
   rw[hf]
   simp only[gl]
   have ht:=Jm hf
   cases hb:(same||Vu t.op (ez B t.e))&&t.ok with
   |true=>
    simp only[hb,cond_true]at h
    simp only[eW,sS]at hb
    refine⟨?_,mK hl hs h hq⟩
    cases hb.1 with
    |inl h1=>exact(hs h1 t ht).2 hb.2
    |inr h1=>exact LP h1 ((hl t ht).2 hb.2)
   |false=>
    simp only[hb,cond_false]at h
    split at h
    ·rename_i q1 h1
     split at h
     ·rename_i q2 h2
      cases h
      exact⟨LU h1 (λp hp=>hq p (CF _ hp)) (hl t ht).1,mK hl hs h2 λp hp=>hq p (EK _ hp)⟩
     ·cases h
    ·cases h
theorem qF{n:List (nN B.S)}:uQ B (vE B n)=uQ B n:=by simp[uQ,vE]
theorem qE{n:List (nN B.S)}{s s':dI B.S}(h:Qm B P s n):Qm B P s' (vE B n):=by
 intro t ht
 obtain⟨u,hu,rfl⟩:=kb.1 ht
 refine⟨(h u hu).1,λe=>?_⟩
 simp only[eW]at e
 exact LP e.2 ((h u hu).2 e.1)
theorem Ay{y:Option Code}{k:List Fr}{bI:dD B.S}{s:dI B.S}(h:ki B P N ρ Q ⟨BV y,k,bI,s⟩):YK P N ρ Q k y (ez B bI) (df B s):=by
 cases y with
 |none=>exact h
 |some c=>exact h
theorem LW{c:Code}{k:List Fr}{bI:Env}{s:St}(h:lA P N ρ c (λe bI s=>e=.normal/\wj P N ρ Q ⟨.out .normal,k,bI,s⟩) bI s):lA P N ρ c (QK P N ρ Q k) bI s:=by
 intro G w a hn
 refine wpIn_mono (h G w a hn) ?_
 rintro e2 a2 w2 ⟨G',env',s2,n',x',rfl,hk⟩
 obtain⟨G3,Of,s3,n3,x3,q3⟩:=hk G' w2 a2 n'
 exact⟨G3,Of,s3,n3,x'.trans hn.iE x3,q3⟩
theorem vF{ops:Array Oper}{d:Bool}{id:Nat}{y:Option Code}{o:TO B.S}{k:List Fr}{bI:dD B.S}{s:dI B.S}(h:qb B P N ops d y=some o)(hk:ki B P N ρ Q ⟨o,k,bI,s⟩):
  lA P N ρ (match y with|some y=>.seq (.region id ops d) y|none=>.region id ops d) (QK P N ρ Q k) (ez B bI) (df B s):=by
 have fin: ∀Q':Exit->Env->St->Prop,(Q'=λe bI s=>e=.normal/\YK P N ρ Q k y bI s)->lA P N ρ (.region id ops d) Q' (ez B bI) (df B s):=by
  intro Q' hQ
  cases d with
  |false=>
   simp only[qb]at h
   cases hg:(nA ops.toList&&pN N ops.toList)with
   |false=>simp[hg]at h
   |true=>
    simp only[hg,cond_true]at h
    cases h
    simp only[eW]at hg
    refine K8 (K:=YK P N ρ Q k y) ops.toList rfl hg.1 hg.2 ?_
    have e:(λbI s=>Q' .normal bI s)=YK P N ρ Q k y:=by subst hQ;funext bI s;simp
    rw[e];exact hk
  |true=>
   simp only[qb]at h
   generalize hp:Hw ops.toList=pl at h
   obtain⟨pre,st⟩:=pl
   simp only at h
   cases hg:(KU P N ops.toList pre st&&(Ro (ins ops.toList) st).all J3&&P.follows .mixedOrders)with
   |false=>simp[hg]at h
   |true=>
    simp only[hg,cond_true]at h
    cases h
    simp only[eW]at hg
    have kX:dq P (YK P N ρ Q k y) (Ro (ins ops.toList) st) [] (ez B bI) (df B s):=hk (λt ht=>by cases ht)
    have e:(λbI s=>Q' .normal bI s)=YK P N ρ Q k y:=by subst hQ;funext bI s;simp
    refine KP pre st ops.toList rfl hg.2 (KV hg.1.1) (qy (oC (tr:=[]) ?_))
    rw[KW]at kX
    rw[e];exact kX
 cases y with
 |none=>exact LW (fin _ rfl)
 |some y=>
  refine Bh ?_
  intro G w a hn
  refine wpIn_mono (fin _ rfl G w a hn) ?_
  rintro e2 a2 w2 ⟨G',env',s2,n',x',rfl,hk⟩
  exact⟨G',env',s2,n',x',hk⟩
theorem FW{c:Code}{k:List Fr}{bI:dD B.S}{s:dI B.S}{M':TM B.S}{q:List (AV×AV)}(h:BT B P N c k bI s=some (M',q))(hk:ki B P N ρ Q M'):lA P N ρ c (QK P N ρ Q k) (ez B bI) (df B s):=by
 unfold BT at h
 split at h
 ·rename_i x y
  split at h
  ·rename_i id ops d
   split at h
   ·rename_i o ho
    cases h
    exact vF (id:=id) (y:=some y) ho hk
   ·cases h
  ·cases h
   exact Bh hk
 ·rename_i id ops d
  split at h
  ·rename_i o ho
   cases h
   exact vF (id:=id) (y:=none) ho hk
  ·cases h
 ·cases h;exact Iy hk
 ·cases h;exactλG w a hn=>wpIn_skip (hk G w a hn)
 ·cases h;exactλG w a hn=>wpIn_exit (hk G w a hn)
 ·cases h
  have hk:lA P N ρ _ (Xm (QK P N ρ Q k)) (ez B bI) (df B s):=hk
  exact(I5 hk λ_ _ _ h=>h).mono λ_ _ _ h=>h.to
 ·cases h;exactλG w a hn=>wpIn_label (hk G w a hn)
 ·cases h;exactλG w a hn=>wpIn_ret (hk G w a hn)
 ·rename_i t x y
  split at h
  ·rename_i v hv
   split at h
   ·rename_i st b hb
    cases st with
    |false=>cases h
    |true=>
     simp only[cond_true]at h
     cases h
     have hc:oper (ez B bI) t=some (.bool b):=by rw[ec,hv,gl,sf hb]
     exact CY hc (λe=>by subst e;exact hk) (λe=>by subst e;exact hk)
   ·cases h
  ·cases h
 ·cases h
theorem FX{e:Exit}{k:List Fr}{bI:dD B.S}{s:dI B.S}{M':TM B.S}{q:List (AV×AV)}(h:BU B e k bI s=some (M',q))(hk:ki B P N ρ Q M'):wj P N ρ Q ⟨.out e,k,ez B bI,df B s⟩:=by
 unfold BU at h
 split at h
 ·cases h
 ·rename_i fr k
  split at h
  ·rename_i y
   split at h
   ·cases h;exactλG w a hn=>hn.after hk
   ·rename_i eJ
    cases h
    intro G w a hn
    refine gM.of (hk G w a hn) λbI s hq=>?_
    cases e with
    |normal=>exact absurd rfl eJ
    |exit _=>exact hq
    |goto _=>exact hq
    |ret=>exact hq
    |panic _=>exact hq
    |outgrown=>exact hq
  ·rename_i id
   split at h
   ·rename_i j
    cases hb:Nat.beq j id with
    |true=>
     rw[hb]at h
     cases h
     intro G w a hn
     refine gM.of (hk G w a hn) λbI s hq=>?_
     show oq id (QK P N ρ Q k) (.exit j) bI s
     simp only[oq]
     rw[if_pos (iU hb)];exact hq
    |false=>
     rw[hb]at h
     cases h
     intro G w a hn
     refine gM.of (hk G w a hn) λbI s hq=>?_
     show oq id (QK P N ρ Q k) (.exit j) bI s
     simp only[oq]
     rw[if_neg (λe=>by subst e;rw[show Nat.beq j j=true from Nu j]at hb;cases hb)];exact hq
   ·rename_i eJ
    cases h
    intro G w a hn
    refine gM.of (hk G w a hn) λbI s hq=>?_
    cases e with
    |exit j=>exact absurd rfl (eJ j)
    |normal=>exact hq
    |goto _=>exact hq
    |ret=>exact hq
    |panic _=>exact hq
    |outgrown=>exact hq
  ·cases h
  ·split at h
   ·cases h
   ·rename_i eJ
    cases h
    intro G w a hn
    refine gM.of (hk G w a hn) λbI s hq=>?_
    cases e with
    |goto l=>exact absurd rfl (eJ l)
    |normal=>exact hq
    |exit _=>exact hq
    |ret=>exact hq
    |panic _=>exact hq
    |outgrown=>exact hq
theorem LX{l:List Ins}{y:Option Code}{k:List Fr}{bI:dD B.S}{s:dI B.S}{M':TM B.S}{q:List (AV×AV)}(h:LQ B P l y k bI s=some (M',q))(hk:ki B P N ρ Q M'):pW P (YK P N ρ Q k y) l (ez B bI) (df B s):=by
 unfold LQ at h
 split at h
 ·cases h;exact Ay hk
 ·rename_i i l
  show EP _ _ _ _
  refine xP (B:=B) ?_
  split at h
  ·rename_i hg
   cases hc:(fS i.op).isSome with
   |true=>rw[hc]at h;cases h
   |false=>
    rw[hc]at h
    cases h
    have hc:fS i.op=none:=by cases hq:fS i.op<;>simp_all
    exact R2 hc (K':=λv s'=>pW P (YK P N ρ Q k y) l (fp i.dst v (ez B bI)) s') (λv s' h=>h) hk
  ·rename_i hg
   cases h
   have:pW P (YK P N ρ Q k y) l (ez B (iR i.dst (.dW []) bI)) (df B s):=hk
   rw[ic]at this
   exact this
  ·cases h
theorem LY{l:List DI}{n:List (nN B.S)}{y:Option Code}{k:List Fr}{bI:dD B.S}{s:dI B.S}{M':TM B.S}{q:List (AV×AV)}(h:LR B P l n y k bI s=some (M',q))(hk:ki B P N ρ Q M')(hn:Qm B P s n):dq P (YK P N ρ Q k y) l (uQ B n) (ez B bI) (df B s):=by
 unfold LR at h
 split at h
 ·cases h;exact Ay hk
 ·rename_i st i sl l
  have skip:ki B P N ρ Q ⟨.rd l n y,k,iR i.dst (.dW []) bI,s⟩->dq P (YK P N ρ Q k y) l (uQ B n) (fp i.dst (.dW []) (ez B bI)) (df B s):=λh=>by
   have:=h hn
   simp only[ic]at this
   exact this
  split at h
  ·rename_i j b
   show ES _ _ _ _
   refine qC (B:=B) ?_
   split at h
   ·rename_i hg
    cases hl:fN i.op with
    |false=>rw[hl]at h;cases h
    |true=>
     rw[hl]at h
     cases h
     have:=hk hl (yh (yj hl)) hn
     rw[nK]at this
     cases b with
     |true=>exact this
     |false=>exact this
   ·rename_i hg
    cases h
    exact skip hk
   ·cases h
  ·rename_i j c
   show ES _ _ _ _
   refine qC (B:=B) ?_
   split at h
   ·rename_i hg
    cases hc:(fS i.op).isSome with
    |true=>rw[hc]at h;cases h
    |false=>
     rw[hc]at h
     cases h
     have hc:fS i.op=none:=by cases hq:fS i.op<;>simp_all
     obtain⟨v,s',e,h1,h2⟩:=yh (B:=B) (P:=P) hc _ (hk hn)
     rw[nK]at e
     show ows _ _ _ _ _
     unfold ows
     simp only[hc,e]
     exact⟨h1,h2⟩
   ·rename_i hg
    cases h
    exact skip hk
   ·cases h
  ·rename_i j
   split at h
   ·rename_i v s' hv
    cases hc:(fS i.op).isSome with
    |true=>rw[hc]at h;cases h
    |false=>
     rw[hc]at h
     cases h
     have hc:fS i.op=none:=by cases hq:fS i.op<;>simp_all
     obtain⟨v',s2,e,e1,e2⟩:=yh (B:=B) (P:=P) (s:=s) (bI:=[]) hc (λa b=>a=v/\b=s') (by rw[hv];exact⟨rfl,rfl⟩)
     subst e1;subst e2
     have e:iL P i.op [] (df B s)=_:=e
     have:=hk (qE hn)
     simp only[ic,qF]at this
     simp only[dq,e]
     exact this
   ·cases h
 ·cases h
theorem LZ{M M':TM B.S}{q:List (AV×AV)}(h:stepT B P N M=some (M',q))(hq: ∀p∈q,p.1=p.2)(hk:ki B P N ρ Q M'):ki B P N ρ Q M:=by
 obtain⟨o,k,bI,s⟩:=M
 unfold stepT at h
 split at h
 ·rename_i c ho
  simp only at ho;subst ho
  exact FW h hk
 ·rename_i e ho
  simp only at ho;subst ho
  exact FX h hk
 ·rename_i l y ho
  simp only at ho;subst ho
  exact LX h hk
 ·rename_i r d l y ho
  simp only at ho;subst ho
  split at h
  ·rename_i v s'
   cases h
   have:pW P (YK P N ρ Q k y) l (ez B (iR d v bI)) (df B s'):=hk
   rw[ic]at this
   exact this
  ·rename_i a b r
   cases h
   exact⟨hq (a,b) (by simp),hk⟩
  ·cases h
 ·rename_i l n y ho
  simp only at ho;subst ho
  exactλhn=>LY h hk hn
 ·rename_i r i b op e d l n y ho
  simp only at ho;subst ho
  intro hl hs hn
  split at h
  ·rename_i v s'
   cases h
   obtain⟨v',s2,e0,e1,e2⟩:=hs (λa b=>a=v/\b=s') ⟨rfl,rfl⟩
   subst e1;subst e2
   have h0:=oA hl e0
   simp only[e0]
   cases b with
   |true=>
    have:=hk (by
     intro t ht
     rcases mB.1 ht with rfl|ht
     ·exact⟨hl,λ_=>by have e:=e0;rw[h0]at e;exact e⟩
     ·exact hn t ht)
    simp only[ic]at this
    exact this
   |false=>
    have:=hk hn
    simp only[ic]at this
    exact this
  ·rename_i a b' r
   cases h
   refine hk hl (λK hK=>hs K ⟨hq (a,b') (by simp),hK⟩) hn
  ·cases h
 ·rename_i r c d l n y ho
  simp only at ho;subst ho
  intro hn
  split at h
  ·rename_i v s'
   split at h
   ·rename_i q' hc
    cases h
    have:=hk (qE hn)
    simp only[ic,qF]at this
    exact⟨mK hn (λe=>by cases e) hc hq,this⟩
   ·cases h
  ·rename_i a b r
   cases h
   exact⟨hq (a,b) (by simp),hk hn⟩
  ·cases h
theorem kl{u:TM B.S->Bool}: ∀{f:Nat}{M:TM B.S},(∀p∈(R1 B P N u f M).2,p.1=p.2)->ki B P N ρ Q (R1 B P N u f M).1->ki B P N ρ Q M
 |0,_,_,h=>h
 |f+1,M,hq,h=>by
  unfold R1 at hq h
  cases hu:u M with
  |true=>rw[hu]at h;exact h
  |false=>
   rw[hu]at hq h
   simp only[cond_false]at hq h
   cases hs:stepT B P N M with
   |none=>rw[hs]at h;exact h
   |some r=>
    obtain⟨M',q⟩:=r
    rw[hs]at hq h
    simp only at hq h
    exact LZ hs (λp hp=>hq p (CF _ hp)) (kl (λp hp=>hq p (EK _ hp)) h)
end
end Go.Am
