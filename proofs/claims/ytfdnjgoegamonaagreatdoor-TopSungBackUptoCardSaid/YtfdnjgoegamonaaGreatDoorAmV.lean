/- The logic AM, V: a machine on typed states, that stops where something is to be known; it is sound. -/
import Derived.Test.YtfdnjgoegamonaaGreatDoorAmU
set_option linter.all false
namespace Go.Am
open Go.RowKit
structure oV (S:Nat->Type) where
 i:Nat
 op:Op
 e:dU S
 v:TV S
 ok:Bool
inductive TO (S:Nat->Type) where
 |run (c:Code)
 |out (e:Exit)
 |ro (l:List Ins) (y:Option Code)
 |po (r:TR S) (d:Option Nat) (l:List Ins) (y:Option Code)
 |rd (l:List DI) (n:List (oV S)) (y:Option Code)
 |pl (r:TR S) (i:Nat) (b:Bool) (op:Op) (e:dU S) (d:Option Nat) (l:List DI) (n:List (oV S)) (y:Option Code)
 |ph (r:TR S) (c:List Nat) (d:Option Nat) (l:List DI) (n:List (oV S)) (y:Option Code)
structure TM (S:Nat->Type) where
 o:TO S
 k:List Fr
 bX:dU S
 s:dZ S
def jq{S:Nat->Type}(d:Option Nat)(v:TV S)(bX:dU S):dU S:=match d with
 |some d=>eF bX d v
 |none=>bX
def oe{S:Nat->Type}:List Nat->dU S->dU S
 | [],_=>[]
 |t::r,bX=>match bJ bX t with
  |some x=>(t,x)::oe r bX
  |none=>oe r bX
inductive GD where
 |go
 |skip
 |ask (d:Nat) (b:Bool)
 |no
def rS{S:Nat->Type}:TV S->Bool
 |.eC []=>true
 |.a (.eC [])=>true
 |_=>false
section
variable (B:jg)
def Gl(g:Option (Nat×Bool))(bX:dU B.S):GD:=match g with
 |none=>.go
 |some (d,want)=>match bJ bX d with
  |some v=>match Lq B v with
   |some (st,b)=>bif st then(bif (b==want)then .go else .skip)else .ask d b
   |none=>bif rS v then .skip else .no
  |none=>.no
def aav:Op->Bool
 |.assign _=>true
 |.move _=>true
 |.store _ _ _=>true
 |_=>false
def RG(d:Nat)(i:Ins):Bool:=(IE i.op).any λx=>Nat.beq x d
def aaw(i:Ins)(l:List Ins):Bool:=match i.op with
 |.buildSlice _ len _=>match i.dst,i.guard with
  |some d,none=>!(Nat.beq len 0)&&l.any (RG d)&&l.all (λj=>!(RG d j)||aav j.op)
  |_,_=>false
 |_=>false
def aax{S:Nat->Type}:TV S->Bool
 |.s _ _=>false
 |_=>true
def noS{S:Nat->Type}(bX:dU S)(op:Op):Bool:=match op with
 |.buildSlice _ _ cR=>(match th bX cR.toList with
  |some l=>l.all λp=>aax p.2
  |none=>true)
 |_=>true
def BH{S:Nat->Type}:List (oV S)->Nat->Option (oV S)
 | [],_=>none
 |t::r,i=>bif Nat.beq t.i i then some t else BH r i
def MX(P:Program)(t:oV B.S)(s:dZ B.S):Option (List (AV×AV)):=match top B P false t.op t.e s with
 |.ok v _=>some [(v.er B.E,t.v.er B.E)]
 |_=>none
def W2(op:Op)(bX:Env):Bool:=match op with
 |.indexAddr _ x _=>(match oper bX x with
  |some (.sl _ _)=>true
  |some (.ip _)=>true
  |_=>false)
 |.load _ x=>(match oper bX x with
  |some (.ip _)=>true
  |_=>false)
 |.slice _ x _ _ _=>(match oper bX x with
  |some (.str _)=>true
  |_=>false)
 |op=>kA op
theorem MY{P:Program}{op:Op}{bX:Env}{s s2:St}{x:AV}(hf:W2 op bX=true)(h:jc P op bX s=some (x,s)):jc P op bX s2=some (x,s2):=by
 unfold W2 at hf;split at hf
 ·rename_i t y i;simp only[jc]at h |-
  split at hf
  ·rename_i b l hy;simp only[hy]at h |-
   cases hi:oper bX i with
   |none=>rw[hi]at h;cases h
   |some n=>
    simp only[hi]at h |-
    have e:fy P t (.sl b l) n s=fy P t (.sl b l) n s2:=by cases n<;>rfl
    rw[e]at h;obtain⟨h,_⟩:=dS h;simp[gE,h]
  ·rename_i l hy;simp only[hy]at h |-
   cases hi:oper bX i with
   |none=>rw[hi]at h;cases h
   |some n=>
    simp only[hi]at h |-
    have e:fy P t (.ip l) n s=fy P t (.ip l) n s2:=by cases n<;>rfl
    rw[e]at h;obtain⟨h,_⟩:=dS h;simp[gE,h]
  ·cases hf
 ·rename_i t y;simp only[jc]at h |-
  split at hf
  ·rename_i l hy;simp only[hy]at h |-
   have e:qd P t (.ip l) s=qd P t (.ip l) s2:=rfl;rw[e]at h;obtain⟨h,_⟩:=dS h;simp[gE,h]
  ·cases hf
 ·rename_i t y lo hi mx;simp only[jc]at h |-
  split at hf
  ·rename_i b hy;simp only[hy]at h |-
   have e:nf P t (.str b) bX lo hi mx s=nf P t (.str b) bX lo hi mx s2:=rfl;rw[e]at h;obtain⟨h,_⟩:=dS h;simp[gE,h]
  ·cases hf
 ·exact nk hf h
def EI(P:Program)(same:Bool)(n:List (oV B.S))(s:dZ B.S):List Nat->Option (List (AV×AV))
 | []=>some []
 |j::r=>match BH n j with
  |none=>EI P same n s r
  |some t=>bif (same||W2 t.op (eY B t.e))&&t.ok then EI P same n s r else match MX B P t s with
   |some q=>match EI P same n s r with
    |some q2=>some (q++q2)
    |none=>none
   |none=>none
def wN(n:List (oV B.S)):List (oV B.S):=n.map λt=>⟨t.i,t.op,t.e,t.v,t.ok&&W2 t.op (eY B t.e)⟩
def vJ(n:List (oV B.S)):List (Nat×Op×Env×AV):=n.map λt=>(t.i,t.op,eY B t.e,t.v.er B.E)
def qS(P:Program)(N:Nat)(ops:Array Oper)(d:Bool)(y:Option Code):Option (TO B.S):=match d with
 |false=>bif oN ops.toList&&qD N ops.toList then some (.ro (ins ops.toList) y)else none
 |true=>match IG ops.toList with
  |(pre,st)=>bif Mn P N ops.toList pre st&&(S8 (ins ops.toList) st).all Mt&&P.follows .mixedOrders then some (.rd (S8 (ins ops.toList) st) [] y)else none
abbrev SR(S:Nat->Type):=Option (TM S×List (AV×AV))
def CV(P:Program)(N:Nat)(c:Code)(k:List Fr)(bX:dU B.S)(s:dZ B.S):SR B.S:=match c with
 |.seq x y=>match x with
  |.region _ ops d=>match qS B P N ops d (some y)with
   |some o=>some (⟨o,k,bX,s⟩,[])
   |none=>none
  |x=>some (⟨.run x,.seq y::k,bX,s⟩,[])
 |.region _ ops d=>match qS B P N ops d none with
  |some o=>some (⟨o,k,bX,s⟩,[])
  |none=>none
 |.block id x=>some (⟨.run x,.blk id::k,bX,s⟩,[])
 |.skip=>some (⟨.out .normal,k,bX,s⟩,[])
 |.exit id=>some (⟨.out (.exit id),k,bX,s⟩,[])
 |.scope x=>some (⟨.run x,.sc::k,bX,s⟩,[])
 |.label _=>some (⟨.out .normal,k,bX,s⟩,[])
 |.ret=>some (⟨.out .ret,k,bX,s⟩,[])
 |.cond t x y=>match fG bX t with
  |some v=>match Lq B v with
   |some (st,b)=>bif st then some (⟨.run (bif b then x else y),k,bX,s⟩,[])else none
   |none=>none
  |none=>none
 |_=>none
def CW(e:Exit)(k:List Fr)(bX:dU B.S)(s:dZ B.S):SR B.S:=match k with
 | []=>none
 |fr::k=>match fr with
  |.seq y=>match e with
   |.normal=>some (⟨.run y,k,bX,s⟩,[])
   |e=>some (⟨.out e,k,bX,s⟩,[])
  |.blk id=>match e with
   |.exit j=>bif Nat.beq j id then some (⟨.out .normal,k,bX,s⟩,[])else some (⟨.out (.exit j),k,bX,s⟩,[])
   |e=>some (⟨.out e,k,bX,s⟩,[])
  |.lp _ _=>none
  |.sc=>match e with
   |.goto _=>none
   |e=>some (⟨.out e,k,bX,s⟩,[])
def CX{S:Nat->Type}(y:Option Code):TO S:=match y with
 |some c=>.run c
 |none=>.out .normal
def MZ(P:Program)(l:List Ins)(y:Option Code)(k:List Fr)(bX:dU B.S)(s:dZ B.S):SR B.S:=match l with
 | []=>some (⟨CX y,k,bX,s⟩,[])
 |i::l=>match Gl B i.guard bX with
  |.go=>bif (gx i.op).isSome then none else some (⟨.po (top B P (aaw i l&&noS bX i.op) i.op bX s) i.dst l y,k,bX,s⟩,[])
  |.skip=>some (⟨.ro l y,k,jq i.dst (.eC []) bX,s⟩,[])
  |_=>none
def M0(P:Program)(l:List DI)(n:List (oV B.S))(y:Option Code)(k:List Fr)(bX:dU B.S)(s:dZ B.S):SR B.S:=match l with
 | []=>some (⟨CX y,k,bX,s⟩,[])
 |⟨st,some i,sl⟩::l=>match st with
  |.iQ j b=>match Gl B i.guard bX with
   |.go=>bif gu i.op then some (⟨.pl (top B P false i.op (oe sl bX) s) j b i.op (oe sl bX) i.dst l n y,k,bX,s⟩,[])else none
   |.skip=>some (⟨.rd l n y,k,jq i.dst (.eC []) bX,s⟩,[])
   |_=>none
  |.iI _ c=>match Gl B i.guard bX with
   |.go=>bif (gx i.op).isSome then none else some (⟨.ph (top B P false i.op (oe sl bX) s) c i.dst l n y,k,bX,s⟩,[])
   |.skip=>some (⟨.rd l n y,k,jq i.dst (.eC []) bX,s⟩,[])
   |_=>none
  |.alloc _=>match top B P false i.op [] s with
   |.ok v s'=>bif (gx i.op).isSome then none else some (⟨.rd l (wN B n) y,k,jq i.dst v bX,s'⟩,[])
   |_=>none
 |⟨_,none,_⟩::_=>none
def stepT(P:Program)(N:Nat)(M:TM B.S):SR B.S:=match M.o with
 |.run c=>CV B P N c M.k M.bX M.s
 |.out e=>CW B e M.k M.bX M.s
 |.ro l y=>MZ B P l y M.k M.bX M.s
 |.po r d l y=>match r with
  |.ok v s'=>some (⟨.ro l y,M.k,jq d v M.bX,s'⟩,[])
  |.eq a b r=>some (⟨.po r d l y,M.k,M.bX,M.s⟩,[(a,b)])
  |_=>none
 |.rd l n y=>M0 B P l n y M.k M.bX M.s
 |.pl r i b op e d l n y=>match r with
  |.ok v _=>some (⟨.rd l (bif b then⟨i,op,e,v,true⟩::n else n) y,M.k,jq d v M.bX,M.s⟩,[])
  |.eq a b' r=>some (⟨.pl r i b op e d l n y,M.k,M.bX,M.s⟩,[(a,b')])
  |_=>none
 |.ph r c d l n y=>match r with
  |.ok v s'=>match EI B P false n s' c with
   |some q=>some (⟨.rd l (wN B n) y,M.k,jq d v M.bX,s'⟩,q)
   |none=>none
  |.eq a b r=>some (⟨.ph r c d l n y,M.k,M.bX,M.s⟩,[(a,b)])
  |_=>none
def ke{S:Nat->Type}:TO S->Bool
 |.run _=>true
 |.out _=>true
 |_=>false
def zd{S:Nat->Type}:TO S->Bool
 |.run _=>true
 |_=>false
def Tv{S:Nat->Type}:TO S->Bool
 |.out .normal=>true
 |_=>false
def RH{α:Type}:List α->Nat->Bool
 | [],_=>true
 |_::_,0=>false
 |_::r,n+1=>RH r n
def noU{S:Nat->Type}(_:TM S):Bool:=false
def RI{S:Nat->Type}(run:Bool)(n:Nat)(M:TM S):Bool:=RH M.k n&&(bif run then zd M.o else Tv M.o)
def aay{S:Nat->Type}(id:Nat)(M:TM S):Bool:=match M.o with
 |.run c=>(match c with
  |.seq (.region i _ _) _=>Nat.beq i id
  |.region i _ _=>Nat.beq i id
  |_=>false)
 |_=>false
def Tw(P:Program)(N:Nat)(u:TM B.S->Bool):Nat->TM B.S->TM B.S×List (AV×AV)
 |0,M=>(M,[])
 |f+1,M=>bif u M then(M,[])else match stepT B P N M with
  |some (M',q)=>(match Tw P N u f M' with
   |(M2,q2)=>(M2,q++q2))
  |none=>(M,[])
end
section
variable {B:jg} {P:Program} {N:Nat} {ρ:Option Nat} {Q:Exit->Env->St->Prop}
def RJ(B:jg)(P:Program)(s:dZ B.S)(n:List (oV B.S)):Prop:= ∀t∈n,gu t.op=true/\(t.ok=true->jc P t.op (eY B t.e) (dA B s)=some (t.v.er B.E,dA B s))
def YK(P:Program)(N:Nat)(ρ:Option Nat)(Q:Exit->Env->St->Prop)(k:List Fr):Option Code->Env->St->Prop
 |some y=>mu P N ρ y (QK P N ρ Q k)
 |none=>λbX s=>xp P N ρ Q ⟨.out .normal,k,bX,s⟩
def kR(B:jg)(P:Program)(N:Nat)(ρ:Option Nat)(Q:Exit->Env->St->Prop)(M:TM B.S):Prop:=match M.o with
 |.run c=>xp P N ρ Q ⟨.run c,M.k,eY B M.bX,dA B M.s⟩
 |.out e=>xp P N ρ Q ⟨.out e,M.k,eY B M.bX,dA B M.s⟩
 |.ro l y=>qM P (YK P N ρ Q M.k y) l (eY B M.bX) (dA B M.s)
 |.po r d l y=>r.wp λv s'=>qM P (YK P N ρ Q M.k y) l (fQ d (v.er B.E) (eY B M.bX)) (dA B s')
 |.rd l n y=>RJ B P M.s n->dq P (YK P N ρ Q M.k y) l (vJ B n) (eY B M.bX) (dA B M.s)
 |.pl r i b op e d l n y=>gu op=true->mw B r (jc P op (eY B e) (dA B M.s))->RJ B P M.s n->match jc P op (eY B e) (dA B M.s)with
  |some (v,_)=>dq P (YK P N ρ Q M.k y) l (if b then(i,op,eY B e,v)::vJ B n else vJ B n) (fQ d v (eY B M.bX)) (dA B M.s)
  |none=>False
 |.ph r c d l n y=>RJ B P M.s n->r.wp λv s'=>xn P (vJ B n) (dA B s') c/\dq P (YK P N ρ Q M.k y) l (vJ B n) (fQ d (v.er B.E) (eY B M.bX)) (dA B s')
structure RT (B:jg) (P:Program) (N:Nat) (ρ:Option Nat) (Q:Exit->Env->St->Prop) (M:TM B.S):Prop where
 v:kR B P N ρ Q M
theorem iM{d:Option Nat}{v:TV B.S}{bX:dU B.S}:eY B (jq d v bX)=fQ d (v.er B.E) (eY B bX):=by
 cases d with
 |none=>rfl
 |some d=>exact xO
theorem oW{sl:List Nat}{bX:dU B.S}:eY B (oe sl bX)=je sl (eY B bX):=by
 induction sl with
 |nil=>rfl
 |cons t r ih=>
  rw[GP,lP];simp only[oe];cases bJ bX t with
  |none=>exact ih
  |some x=>simp only[eY,gX,ih]
theorem ze{g:Option (Nat×Bool)}{bX:dU B.S}{A C:Prop}(h:match Gl B g bX with
  |.go=>A
  |.skip=>C
  |_=>False):Gg g (eY B bX) A C:=by
 unfold Gl at h;unfold Gg;cases g with
 |none=>exact h
 |some q=>
  obtain⟨d,want⟩:=q;simp only at h |-
  rw[lP];cases hv:bJ bX d with
  |none=>rw[hv]at h;exact h.elim
  |some v=>
   rw[hv]at h;simp only[gX]at h |-
   cases hb:Lq B v with
   |none=>
    rw[hb]at h;simp only at h;cases hn:rS v with
    |false=>rw[hn]at h;exact h.elim
    |true=>
     rw[hn]at h;have:v.er B.E=.eC []:=by
      unfold rS at hn;split at hn<;>first|rfl|cases hn
     rw[this];exact h
   |some p=>
    obtain⟨st,b⟩:=p;rw[hb]at h;simp only at h;cases st with
    |false=>exact h.elim
    |true=>
     rw[tl hb];simp only[dt]at h |-
     cases b<;>cases want<;>simp_all
theorem rT{g:Option (Nat×Bool)}{bX:dU B.S}{A C:Env->Prop}(h:match Gl B g bX with
  |.go=>A (eY B bX)
  |.skip=>C (eY B bX)
  |_=>False):Gj g (eY B bX) A C:=by
 unfold Gl at h;unfold Gj;cases g with
 |none=>exact h
 |some q=>
  obtain⟨d,want⟩:=q;simp only at h |-
  have hg:=lP (B:=B) (bX:=bX) (t:=d);rw[hg];cases hv:bJ bX d with
  |none=>rw[hv]at h;exact h.elim
  |some v=>
   rw[hv]at h hg;simp only[gX]at h hg |-
   cases hb:Lq B v with
   |none=>
    rw[hb]at h;simp only at h;cases hn:rS v with
    |false=>rw[hn]at h;exact h.elim
    |true=>
     rw[hn]at h;have:v.er B.E=.eC []:=by
      unfold rS at hn;split at hn<;>first|rfl|cases hn
     rw[this];exact h
   |some p=>
    obtain⟨st,b⟩:=p;rw[hb]at h;simp only at h;cases st with
    |false=>exact h.elim
    |true=>
     rw[tl hb]at hg |-
     have key: ∀c,b=c->eF (eY B bX) d (.bool c)=eY B bX:=λc e=>by subst e;exact oP hg
     simp only[dt]at h |-
     refine⟨λe=>?_,λe=>?_⟩
     ·rw[key _ e];subst e;simpa using h
     ·rw[key _ e];subst e;have:((!want)==want)=false:=by cases want<;>rfl
      rw[this]at h;exact h
theorem zf{op:Op}(h:gu op=true):gx op=none:=by
 cases op<;>simp only[gu]at h<;>first|rfl|(cases h;done)|skip
 rename_i c;obtain⟨callee,a,t⟩:=c;cases callee<;>first|rfl|(simp at h)
theorem Tx{op:Op}{own:Bool}{bX:dU B.S}{s:dZ B.S}{K:TV B.S->dZ B.S->Prop}{K':AV->St->Prop}(hc:gx op=none)(hk: ∀v s',K v s'->K' (v.er B.E) (dA B s'))(h:(top B P own op bX s).wp K):PY P op K' (eY B bX) (dA B s):=by
 have cn:(top B P false op bX s).wp K->PY P op K' (eY B bX) (dA B s):=λh=>by
  obtain⟨v,s',e,hK⟩:=zb (B:=B) (P:=P) hc K h;refine .inl ?_;unfold ows;simp only[hc,e];exact hk v s' hK
 cases own with
 |false=>exact cn h
 |true=>
  have same:(∃t len cR,op=.buildSlice t len cR)\/top B P true op bX s=top B P false op bX s:=by
   cases op<;>first|exact .inr rfl|exact .inl ⟨_,_,_,rfl⟩|skip
   rename_i fn _ _;cases fn<;>exact .inr rfl
  rcases same with⟨t,len,cR,rfl⟩|e
  case inr=>rw[e]at h;exact cn h
  refine .inr (.inl ?_);simp only[top]at h;split at h
  ·rename_i l hl;have:=qR (B:=B) (P:=P) (s:=s) (t:=t) (len:=len) (own:=true) (cR:=l) K h;obtain⟨v,s',e,hK⟩:=this;refine⟨v.er B.E,dA B s',?_,hk v s' hK⟩;simp only[dt]at e;simp only[GU,rR,hl,gX];rw[<-e];simp only[nE,dA];cases gw P t len (List.map (λp=>(p.fst,TV.er B.E p.snd)) l)with
   |none=>rfl
   |some _=>cases eH P t<;>rfl
  ·exact h.elim
theorem M1{n:List (oV B.S)}{j:Nat}:BA (vJ B n) j=(BH n j).map λt=>(t.op,eY B t.e,t.v.er B.E):=by
 induction n with
 |nil=>rfl
 |cons t r ih=>
  simp only[vJ,wy,BA,BH];by_cases h:t.i=j
  ·rw[dP h];subst h;rw[show Nat.beq t.i t.i=true from O0 _];rfl
  ·rw[dY h];have:Nat.beq t.i j=false:=by
    cases hq:Nat.beq t.i j with
    |false=>rfl
    |true=>exact absurd (jn hq) h
   rw[this];exact ih
theorem Kv{S:Nat->Type}{n:List (oV S)}{j:Nat}{t:oV S}(h:BH n j=some t):t∈n:=by
 induction n with
 |nil=>cases h
 |cons a r ih=>
  simp only[BH]at h;cases hq:Nat.beq a.i j with
  |true=>rw[hq]at h;cases h;simp
  |false=>rw[hq]at h;exact JO _ (ih h)
theorem M3{t:oV B.S}{s:dZ B.S}{q:List (AV×AV)}(h:MX B P t s=some q)(hq: ∀p∈q,p.1=p.2)(hl:gu t.op=true):jc P t.op (eY B t.e) (dA B s)=some (t.v.er B.E,dA B s):=by
 unfold MX at h;split at h
 ·rename_i v s2 ht;cases h;obtain⟨v',s',e,e1,e2⟩:=zb (B:=B) (P:=P) (s:=s) (op:=t.op) (bX:=t.e) (zf hl) (λa b=>a=v/\b=s2) (by rw[ht];exact⟨rfl,rfl⟩);subst e1;subst e2;have hv:v'.er B.E=t.v.er B.E:=hq (v'.er B.E,t.v.er B.E) (by simp);rw[e,pL hl e,hv]
 ·cases h
theorem nM{same:Bool}{n:List (oV B.S)}{s s0:dZ B.S}(hl:RJ B P s0 n)(hs:same=true->RJ B P s n): ∀{c:List Nat}{q:List (AV×AV)},EI B P same n s c=some q->(∀p∈q,p.1=p.2)->xn P (vJ B n) (dA B s) c
 | [],_,_,_=>trivial
 |j::r,q,h,hq=>by
  unfold EI at h;unfold xn;rw[M1];split at h
  ·rename_i hf;rw[hf];exact⟨trivial,nM hl hs h hq⟩
  ·rename_i t hf;rw[hf];simp only[gX];have ht:=Kv hf;cases hb:(same||W2 t.op (eY B t.e))&&t.ok with
   |true=>
    simp only[hb,dt]at h;simp only[fE,tY]at hb;refine⟨?_,nM hl hs h hq⟩;cases hb.1 with
    |inl h1=>exact(hs h1 t ht).2 hb.2
    |inr h1=>exact MY h1 ((hl t ht).2 hb.2)
   |false=>
    simp only[hb,dD]at h;split at h
    ·rename_i q1 h1;split at h
     ·rename_i q2 h2;cases h;exact⟨M3 h1 (λp hp=>hq p (DQ _ hp)) (hl t ht).1,nM hl hs h2 λp hp=>hq p (Ga _ hp)⟩
     ·cases h
    ·cases h
theorem rU{n:List (oV B.S)}:vJ B (wN B n)=vJ B n:=by simp[vJ,wN]
theorem rV{n:List (oV B.S)}{s s':dZ B.S}(h:RJ B P s n):RJ B P s' (wN B n):=by
 intro t ht;obtain⟨u,hu,rfl⟩:=kl.1 ht;refine⟨(h u hu).1,λe=>?_⟩;simp only[fE]at e;exact MY e.2 ((h u hu).2 e.1)
theorem BI{y:Option Code}{k:List Fr}{bX:dU B.S}{s:dZ B.S}(h:kR B P N ρ Q ⟨CX y,k,bX,s⟩):YK P N ρ Q k y (eY B bX) (dA B s):=by
 cases y with
 |none=>exact h
 |some c=>exact h
theorem M4{c:Code}{k:List Fr}{bX:Env}{s:St}(h:mu P N ρ c (λe bX s=>e=.normal/\xp P N ρ Q ⟨.out .normal,k,bX,s⟩) bX s):mu P N ρ c (QK P N ρ Q k) bX s:=by
 intro G w a hn;refine wpIn_mono (h G w a hn) ?_;rintro e2 a2 w2 ⟨G',env',s2,n',x',rfl,hk⟩;obtain⟨G3,PQ,s3,n3,x3,q3⟩:=hk G' w2 a2 n';exact⟨G3,PQ,s3,n3,x'.trans hn.jd x3,q3⟩
theorem wO{ops:Array Oper}{d:Bool}{id:Nat}{y:Option Code}{o:TO B.S}{k:List Fr}{bX:dU B.S}{s:dZ B.S}(h:qS B P N ops d y=some o)(hk:kR B P N ρ Q ⟨o,k,bX,s⟩):
  mu P N ρ (match y with|some y=>.seq (.region id ops d) y|none=>.region id ops d) (QK P N ρ Q k) (eY B bX) (dA B s):=by
 have fin: ∀Q':Exit->Env->St->Prop,(Q'=λe bX s=>e=.normal/\YK P N ρ Q k y bX s)->mu P N ρ (.region id ops d) Q' (eY B bX) (dA B s):=by
  intro Q' hQ;cases d with
  |false=>
   simp only[qS]at h;cases hg:(oN ops.toList&&qD N ops.toList)with
   |false=>simp[hg]at h
   |true=>
    simp only[hg,dt]at h;cases h;simp only[fE]at hg;refine Mw (K:=YK P N ρ Q k y) ops.toList rfl hg.1 hg.2 ?_;have e:(λbX s=>Q' .normal bX s)=YK P N ρ Q k y:=by subst hQ;funext bX s;simp
    rw[e];exact hk
  |true=>
   simp only[qS]at h;generalize hp:IG ops.toList=pl at h;obtain⟨pre,st⟩:=pl;simp only at h;cases hg:(Mn P N ops.toList pre st&&(S8 (ins ops.toList) st).all Mt&&P.follows .mixedOrders)with
   |false=>simp[hg]at h
   |true=>
    simp only[hg,dt]at h;cases h;simp only[fE]at hg;have ky:dq P (YK P N ρ Q k y) (S8 (ins ops.toList) st) [] (eY B bX) (dA B s):=hk (λt ht=>by cases ht);have e:(λbX s=>Q' .normal bX s)=YK P N ρ Q k y:=by subst hQ;funext bX s;simp
    refine Mi pre st ops.toList rfl hg.2 (Mo hg.1.1) (rK (pN (tr:=[]) ?_));rw[Mp]at ky;rw[e];exact ky
 cases y with
 |none=>exact M4 (fin _ rfl)
 |some y=>
  refine Cp ?_;intro G w a hn;refine wpIn_mono (fin _ rfl G w a hn) ?_;rintro e2 a2 w2 ⟨G',env',s2,n',x',rfl,hk⟩;exact⟨G',env',s2,n',x',hk⟩
theorem Hk{c:Code}{k:List Fr}{bX:dU B.S}{s:dZ B.S}{M':TM B.S}{q:List (AV×AV)}(h:CV B P N c k bX s=some (M',q))(hk:kR B P N ρ Q M'):mu P N ρ c (QK P N ρ Q k) (eY B bX) (dA B s):=by
 unfold CV at h;split at h
 ·rename_i x y;split at h
  ·rename_i id ops d;split at h
   ·rename_i o ho;cases h;exact wO (id:=id) (y:=some y) ho hk
   ·cases h
  ·cases h;exact Cp hk
 ·rename_i id ops d;split at h
  ·rename_i o ho;cases h;exact wO (id:=id) (y:=none) ho hk
  ·cases h
 ·cases h;exact JT hk
 ·cases h;exactλG w a hn=>wpIn_skip (hk G w a hn)
 ·cases h;exactλG w a hn=>wpIn_exit (hk G w a hn)
 ·cases h;have hk:mu P N ρ _ (YL (QK P N ρ Q k)) (eY B bX) (dA B s):=hk;exact(Kn hk λ_ _ _ h=>h).mono λ_ _ _ h=>h.to
 ·cases h;exactλG w a hn=>wpIn_label (hk G w a hn)
 ·cases h;exactλG w a hn=>wpIn_ret (hk G w a hn)
 ·rename_i t x y;split at h
  ·rename_i v hv;split at h
   ·rename_i st b hb;cases st with
    |false=>cases h
    |true=>
     simp only[dt]at h;cases h;have hc:oper (eY B bX) t=some (.bool b):=by rw[eL,hv,gX,tl hb]
     exact Eb hc (λe=>by subst e;exact hk) (λe=>by subst e;exact hk)
   ·cases h
  ·cases h
 ·cases h
theorem Hl{e:Exit}{k:List Fr}{bX:dU B.S}{s:dZ B.S}{M':TM B.S}{q:List (AV×AV)}(h:CW B e k bX s=some (M',q))(hk:kR B P N ρ Q M'):xp P N ρ Q ⟨.out e,k,eY B bX,dA B s⟩:=by
 unfold CW at h;split at h
 ·cases h
 ·rename_i fr k;split at h
  ·rename_i y;split at h
   ·cases h;exactλG w a hn=>hn.after hk
   ·rename_i eU;cases h;intro G w a hn;refine iy.of (hk G w a hn) λbX s hq=>?_;cases e with
    |normal=>exact absurd rfl eU
    |exit _=>exact hq
    |goto _=>exact hq
    |ret=>exact hq
    |panic _=>exact hq
    |outgrown=>exact hq
  ·rename_i id;split at h
   ·rename_i j;cases hb:Nat.beq j id with
    |true=>
     rw[hb]at h;cases h;intro G w a hn;refine iy.of (hk G w a hn) λbX s hq=>?_;show pF id (QK P N ρ Q k) (.exit j) bX s;simp only[pF];rw[dP (jn hb)];exact hq
    |false=>
     rw[hb]at h;cases h;intro G w a hn;refine iy.of (hk G w a hn) λbX s hq=>?_;show pF id (QK P N ρ Q k) (.exit j) bX s;simp only[pF];rw[dY (λe=>by subst e;rw[show Nat.beq j j=true from O0 j]at hb;cases hb)];exact hq
   ·rename_i eU;cases h;intro G w a hn;refine iy.of (hk G w a hn) λbX s hq=>?_;cases e with
    |exit j=>exact absurd rfl (eU j)
    |normal=>exact hq
    |goto _=>exact hq
    |ret=>exact hq
    |panic _=>exact hq
    |outgrown=>exact hq
  ·cases h
  ·split at h
   ·cases h
   ·rename_i eU;cases h;intro G w a hn;refine iy.of (hk G w a hn) λbX s hq=>?_;cases e with
    |goto l=>exact absurd rfl (eU l)
    |normal=>exact hq
    |exit _=>exact hq
    |ret=>exact hq
    |panic _=>exact hq
    |outgrown=>exact hq
theorem M5{l:List Ins}{y:Option Code}{k:List Fr}{bX:dU B.S}{s:dZ B.S}{M':TM B.S}{q:List (AV×AV)}(h:MZ B P l y k bX s=some (M',q))(hk:kR B P N ρ Q M'):qM P (YK P N ρ Q k y) l (eY B bX) (dA B s):=by
 unfold MZ at h;split at h
 ·cases h;exact BI hk
 ·rename_i i l;show Gg _ _ _ _;refine ze (B:=B) ?_;split at h
  ·rename_i hg;cases hc:(gx i.op).isSome with
   |true=>rw[hc]at h;cases h
   |false=>
    rw[hc]at h;cases h;have hc:gx i.op=none:=by cases hq:gx i.op<;>simp_all
    exact Tx hc (K':=λv s'=>qM P (YK P N ρ Q k y) l (fQ i.dst v (eY B bX)) s') (λv s' h=>h) hk
  ·rename_i hg;cases h;have:qM P (YK P N ρ Q k y) l (eY B (jq i.dst (.eC []) bX)) (dA B s):=hk;rw[iM]at this;exact this
  ·cases h
theorem M6{l:List DI}{n:List (oV B.S)}{y:Option Code}{k:List Fr}{bX:dU B.S}{s:dZ B.S}{M':TM B.S}{q:List (AV×AV)}(h:M0 B P l n y k bX s=some (M',q))(hk:kR B P N ρ Q M')(hn:RJ B P s n):dq P (YK P N ρ Q k y) l (vJ B n) (eY B bX) (dA B s):=by
 unfold M0 at h;split at h
 ·cases h;exact BI hk
 ·rename_i st i sl l;have skip:kR B P N ρ Q ⟨.rd l n y,k,jq i.dst (.eC []) bX,s⟩->dq P (YK P N ρ Q k y) l (vJ B n) (fQ i.dst (.eC []) (eY B bX)) (dA B s):=λh=>by
   have:=h hn;simp only[iM]at this;exact this
  split at h
  ·rename_i j b;show Gj _ _ _ _;refine rT (B:=B) ?_;split at h
   ·rename_i hg;cases hl:gu i.op with
    |false=>rw[hl]at h;cases h
    |true=>
     rw[hl]at h;cases h;have:=hk hl (zb (zf hl)) hn;rw[oW]at this;cases b with
     |true=>exact this
     |false=>exact this
   ·rename_i hg;cases h;exact skip hk
   ·cases h
  ·rename_i j c;show Gj _ _ _ _;refine rT (B:=B) ?_;split at h
   ·rename_i hg;cases hc:(gx i.op).isSome with
    |true=>rw[hc]at h;cases h
    |false=>
     rw[hc]at h;cases h;have hc:gx i.op=none:=by cases hq:gx i.op<;>simp_all
     obtain⟨v,s',e,h1,h2⟩:=zb (B:=B) (P:=P) hc _ (hk hn);rw[oW]at e;show ows _ _ _ _ _;unfold ows;simp only[hc,e];exact⟨h1,h2⟩
   ·rename_i hg;cases h;exact skip hk
   ·cases h
  ·rename_i j;split at h
   ·rename_i v s' hv;cases hc:(gx i.op).isSome with
    |true=>rw[hc]at h;cases h
    |false=>
     rw[hc]at h;cases h;have hc:gx i.op=none:=by cases hq:gx i.op<;>simp_all
     obtain⟨v',s2,e,e1,e2⟩:=zb (B:=B) (P:=P) (s:=s) (bX:=[]) hc (λa b=>a=v/\b=s') (by rw[hv];exact⟨rfl,rfl⟩);subst e1;subst e2;have e:jc P i.op [] (dA B s)=_:=e;have:=hk (rV hn);simp only[iM,rU]at this;simp only[dq,e];exact this
   ·cases h
 ·cases h
theorem M7{M M':TM B.S}{q:List (AV×AV)}(h:stepT B P N M=some (M',q))(hq: ∀p∈q,p.1=p.2)(hk:kR B P N ρ Q M'):kR B P N ρ Q M:=by
 obtain⟨o,k,bX,s⟩:=M;unfold stepT at h;split at h
 ·rename_i c ho;simp only at ho;subst ho;exact Hk h hk
 ·rename_i e ho;simp only at ho;subst ho;exact Hl h hk
 ·rename_i l y ho;simp only at ho;subst ho;exact M5 h hk
 ·rename_i r d l y ho;simp only at ho;subst ho;split at h
  ·rename_i v s';cases h;have:qM P (YK P N ρ Q k y) l (eY B (jq d v bX)) (dA B s'):=hk;rw[iM]at this;exact this
  ·rename_i a b r;cases h;exact⟨hq (a,b) (by simp),hk⟩
  ·cases h
 ·rename_i l n y ho;simp only at ho;subst ho;exactλhn=>M6 h hk hn
 ·rename_i r i b op e d l n y ho;simp only at ho;subst ho;intro hl hs hn;split at h
  ·rename_i v s';cases h;obtain⟨v',s2,e0,e1,e2⟩:=hs (λa b=>a=v/\b=s') ⟨rfl,rfl⟩;subst e1;subst e2;have h0:=pL hl e0;simp only[e0];cases b with
   |true=>
    have:=hk (by
     intro t ht;rcases mZ.1 ht with rfl|ht
     ·exact⟨hl,λ_=>by have e:=e0;rw[h0]at e;exact e⟩
     ·exact hn t ht)
    simp only[iM]at this;exact this
   |false=>
    have:=hk hn;simp only[iM]at this;exact this
  ·rename_i a b' r;cases h;refine hk hl (λK hK=>hs K ⟨hq (a,b') (by simp),hK⟩) hn
  ·cases h
 ·rename_i r c d l n y ho;simp only at ho;subst ho;intro hn;split at h
  ·rename_i v s';split at h
   ·rename_i q' hc;cases h;have:=hk (rV hn);simp only[iM,rU]at this;exact⟨nM hn (λe=>by cases e) hc hq,this⟩
   ·cases h
  ·rename_i a b r;cases h;exact⟨hq (a,b) (by simp),hk hn⟩
  ·cases h
theorem kr{u:TM B.S->Bool}: ∀{f:Nat}{M:TM B.S},(∀p∈(Tw B P N u f M).2,p.1=p.2)->kR B P N ρ Q (Tw B P N u f M).1->kR B P N ρ Q M
 |0,_,_,h=>h
 |f+1,M,hq,h=>by
  unfold Tw at hq h;cases hu:u M with
  |true=>rw[hu]at h;exact h
  |false=>
   rw[hu]at hq h;simp only[dD]at hq h;cases hs:stepT B P N M with
   |none=>rw[hs]at h;exact h
   |some r=>
    obtain⟨M',q⟩:=r;rw[hs]at hq h;simp only at hq h;exact M7 hs (λp hp=>hq p (DQ _ hp)) (kr (λp hp=>hq p (Ga _ hp)) h)
end
end Go.Am
