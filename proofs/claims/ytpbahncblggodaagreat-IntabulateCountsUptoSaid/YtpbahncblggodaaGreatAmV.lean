/- The logic AM, V: a machine on typed states, that stops where something is to be known; it is sound. -/
import Derived.Test.YtpbahncblggodaaGreatAmU
set_option linter.all false
namespace Go.Am
open Go.RowKit
structure oh (S:Nat->Type) where
 i:Nat
 op:Op
 e:dK S
 v:TV S
 ok:Bool
inductive TO (S:Nat->Type) where
 |run (c:Code)
 |out (e:Exit)
 |ro (l:List Ins) (y:Option Code)
 |po (r:TR S) (d:Option Nat) (l:List Ins) (y:Option Code)
 |rd (l:List DI) (n:List (oh S)) (y:Option Code)
 |pl (r:TR S) (i:Nat) (b:Bool) (op:Op) (e:dK S) (d:Option Nat) (l:List DI) (n:List (oh S)) (y:Option Code)
 |ph (r:TR S) (c:List Nat) (d:Option Nat) (l:List DI) (n:List (oh S)) (y:Option Code)
structure TM (S:Nat->Type) where
 o:TO S
 k:List Fr
 bI:dK S
 s:dP S
def je{S:Nat->Type}(d:Option Nat)(v:TV S)(bI:dK S):dK S:=match d with
 |some d=>eg bI d v
 |none=>bI
def nB{S:Nat->Type}:List Nat->dK S->dK S
 | [],_=>[]
 |t::r,bI=>match bH bI t with
  |some x=>(t,x)::nB r bI
  |none=>nB r bI
inductive GD where
 |go
 |skip
 |ask (d:Nat) (b:Bool)
 |no
def rz{S:Nat->Type}:TV S->Bool
 |.ec []=>true
 |.a (.ec [])=>true
 |_=>false
section
variable (B:jc)
def FJ(g:Option (Nat×Bool))(bI:dK B.S):GD:=match g with
 |none=>.go
 |some (d,want)=>match bH bI d with
  |some v=>match KJ B v with
   |some (st,b)=>bif st then(bif (b==want)then .go else .skip)else .ask d b
   |none=>bif rz v then .skip else .no
  |none=>.no
def aaa:Op->Bool
 |.assign _=>true
 |.move _=>true
 |.store _ _ _=>true
 |_=>false
def Ra(d:Nat)(i:Ins):Bool:=(HS i.op).any λx=>Nat.beq x d
def aab(i:Ins)(l:List Ins):Bool:=match i.op with
 |.buildSlice _ len _=>match i.dst,i.guard with
  |some d,none=>!(Nat.beq len 0)&&l.any (Ra d)&&l.all (λj=>!(Ra d j)||aaa j.op)
  |_,_=>false
 |_=>false
def aac{S:Nat->Type}:TV S->Bool
 |.s _ _=>false
 |_=>true
def noS{S:Nat->Type}(bI:dK S)(op:Op):Bool:=match op with
 |.buildSlice _ _ cA=>(match sT bI cA.toList with
  |some l=>l.all λp=>aac p.2
  |none=>true)
 |_=>true
def Bs{S:Nat->Type}:List (oh S)->Nat->Option (oh S)
 | [],_=>none
 |t::r,i=>bif Nat.beq t.i i then some t else Bs r i
def MC(P:Program)(t:oh B.S)(s:dP B.S):Option (List (AV×AV)):=match top B P false t.op t.e s with
 |.ok v _=>some [(v.er B.E,t.v.er B.E)]
 |_=>none
def Wm(op:Op)(bI:Env):Bool:=match op with
 |.indexAddr _ x _=>(match oper bI x with
  |some (.sl _ _)=>true
  |some (.ip _)=>true
  |_=>false)
 |.load _ x=>(match oper bI x with
  |some (.ip _)=>true
  |_=>false)
 |op=>kh op
theorem MD{P:Program}{op:Op}{bI:Env}{s s2:St}{x:AV}(hf:Wm op bI=true)(h:iX P op bI s=some (x,s)):iX P op bI s2=some (x,s2):=by
 unfold Wm at hf
 split at hf
 ·rename_i t y i
  simp only[iX]at h |-
  split at hf
  ·rename_i b l hy
   simp only[hy]at h |-
   cases hi:oper bI i with
   |none=>rw[hi]at h;cases h
   |some n=>
    simp only[hi]at h |-
    have e:eX P t (.sl b l) n s=eX P t (.sl b l) n s2:=by cases n<;>rfl
    rw[e]at h
    obtain⟨h,_⟩:=dL h
    simp[gu,h]
  ·rename_i l hy
   simp only[hy]at h |-
   cases hi:oper bI i with
   |none=>rw[hi]at h;cases h
   |some n=>
    simp only[hi]at h |-
    have e:eX P t (.ip l) n s=eX P t (.ip l) n s2:=by cases n<;>rfl
    rw[e]at h
    obtain⟨h,_⟩:=dL h
    simp[gu,h]
  ·cases hf
 ·rename_i t y
  simp only[iX]at h |-
  split at hf
  ·rename_i l hy
   simp only[hy]at h |-
   have e:pJ P t (.ip l) s=pJ P t (.ip l) s2:=rfl
   rw[e]at h
   obtain⟨h,_⟩:=dL h
   simp[gu,h]
  ·cases hf
 ·exact mI hf h
def El(P:Program)(same:Bool)(n:List (oh B.S))(s:dP B.S):List Nat->Option (List (AV×AV))
 | []=>some []
 |j::r=>match Bs n j with
  |none=>El P same n s r
  |some t=>bif (same||Wm t.op (eJ B t.e))&&t.ok then El P same n s r else match MC B P t s with
   |some q=>match El P same n s r with
    |some q2=>some (q++q2)
    |none=>none
   |none=>none
def wo(n:List (oh B.S)):List (oh B.S):=n.map λt=>⟨t.i,t.op,t.e,t.v,t.ok&&Wm t.op (eJ B t.e)⟩
def vt(n:List (oh B.S)):List (Nat×Op×Env×AV):=n.map λt=>(t.i,t.op,eJ B t.e,t.v.er B.E)
def qB(P:Program)(N:Nat)(ops:Array Oper)(d:Bool)(y:Option Code):Option (TO B.S):=match d with
 |false=>bif nS ops.toList&&qj N ops.toList then some (.ro (ins ops.toList) y)else none
 |true=>match Ik ops.toList with
  |(pre,st)=>bif LQ P N ops.toList pre st&&(Sg (ins ops.toList) st).all KN&&P.follows .mixedOrders then some (.rd (Sg (ins ops.toList) st) [] y)else none
abbrev SR(S:Nat->Type):=Option (TM S×List (AV×AV))
def CB(P:Program)(N:Nat)(c:Code)(k:List Fr)(bI:dK B.S)(s:dP B.S):SR B.S:=match c with
 |.seq x y=>match x with
  |.region _ ops d=>match qB B P N ops d (some y)with
   |some o=>some (⟨o,k,bI,s⟩,[])
   |none=>none
  |x=>some (⟨.run x,.seq y::k,bI,s⟩,[])
 |.region _ ops d=>match qB B P N ops d none with
  |some o=>some (⟨o,k,bI,s⟩,[])
  |none=>none
 |.block id x=>some (⟨.run x,.blk id::k,bI,s⟩,[])
 |.skip=>some (⟨.out .normal,k,bI,s⟩,[])
 |.exit id=>some (⟨.out (.exit id),k,bI,s⟩,[])
 |.scope x=>some (⟨.run x,.sc::k,bI,s⟩,[])
 |.label _=>some (⟨.out .normal,k,bI,s⟩,[])
 |.ret=>some (⟨.out .ret,k,bI,s⟩,[])
 |.cond t x y=>match fk bI t with
  |some v=>match KJ B v with
   |some (st,b)=>bif st then some (⟨.run (bif b then x else y),k,bI,s⟩,[])else none
   |none=>none
  |none=>none
 |_=>none
def CC(e:Exit)(k:List Fr)(bI:dK B.S)(s:dP B.S):SR B.S:=match k with
 | []=>none
 |fr::k=>match fr with
  |.seq y=>match e with
   |.normal=>some (⟨.run y,k,bI,s⟩,[])
   |e=>some (⟨.out e,k,bI,s⟩,[])
  |.blk id=>match e with
   |.exit j=>bif Nat.beq j id then some (⟨.out .normal,k,bI,s⟩,[])else some (⟨.out (.exit j),k,bI,s⟩,[])
   |e=>some (⟨.out e,k,bI,s⟩,[])
  |.lp _ _=>none
  |.sc=>match e with
   |.goto _=>none
   |e=>some (⟨.out e,k,bI,s⟩,[])
def CD{S:Nat->Type}(y:Option Code):TO S:=match y with
 |some c=>.run c
 |none=>.out .normal
def ME(P:Program)(l:List Ins)(y:Option Code)(k:List Fr)(bI:dK B.S)(s:dP B.S):SR B.S:=match l with
 | []=>some (⟨CD y,k,bI,s⟩,[])
 |i::l=>match FJ B i.guard bI with
  |.go=>bif (ga i.op).isSome then none else some (⟨.po (top B P (aab i l&&noS bI i.op) i.op bI s) i.dst l y,k,bI,s⟩,[])
  |.skip=>some (⟨.ro l y,k,je i.dst (.ec []) bI,s⟩,[])
  |_=>none
def MF(P:Program)(l:List DI)(n:List (oh B.S))(y:Option Code)(k:List Fr)(bI:dK B.S)(s:dP B.S):SR B.S:=match l with
 | []=>some (⟨CD y,k,bI,s⟩,[])
 |⟨st,some i,sl⟩::l=>match st with
  |.iD j b=>match FJ B i.guard bI with
   |.go=>bif fV i.op then some (⟨.pl (top B P false i.op (nB sl bI) s) j b i.op (nB sl bI) i.dst l n y,k,bI,s⟩,[])else none
   |.skip=>some (⟨.rd l n y,k,je i.dst (.ec []) bI,s⟩,[])
   |_=>none
  |.ir _ c=>match FJ B i.guard bI with
   |.go=>bif (ga i.op).isSome then none else some (⟨.ph (top B P false i.op (nB sl bI) s) c i.dst l n y,k,bI,s⟩,[])
   |.skip=>some (⟨.rd l n y,k,je i.dst (.ec []) bI,s⟩,[])
   |_=>none
  |.alloc _=>match top B P false i.op [] s with
   |.ok v s'=>bif (ga i.op).isSome then none else some (⟨.rd l (wo B n) y,k,je i.dst v bI,s'⟩,[])
   |_=>none
 |⟨_,none,_⟩::_=>none
def stepT(P:Program)(N:Nat)(M:TM B.S):SR B.S:=match M.o with
 |.run c=>CB B P N c M.k M.bI M.s
 |.out e=>CC B e M.k M.bI M.s
 |.ro l y=>ME B P l y M.k M.bI M.s
 |.po r d l y=>match r with
  |.ok v s'=>some (⟨.ro l y,M.k,je d v M.bI,s'⟩,[])
  |.eq a b r=>some (⟨.po r d l y,M.k,M.bI,M.s⟩,[(a,b)])
  |_=>none
 |.rd l n y=>MF B P l n y M.k M.bI M.s
 |.pl r i b op e d l n y=>match r with
  |.ok v _=>some (⟨.rd l (bif b then⟨i,op,e,v,true⟩::n else n) y,M.k,je d v M.bI,M.s⟩,[])
  |.eq a b' r=>some (⟨.pl r i b op e d l n y,M.k,M.bI,M.s⟩,[(a,b')])
  |_=>none
 |.ph r c d l n y=>match r with
  |.ok v s'=>match El B P false n s' c with
   |some q=>some (⟨.rd l (wo B n) y,M.k,je d v M.bI,s'⟩,q)
   |none=>none
  |.eq a b r=>some (⟨.ph r c d l n y,M.k,M.bI,M.s⟩,[(a,b)])
  |_=>none
def ko{S:Nat->Type}:TO S->Bool
 |.run _=>true
 |.out _=>true
 |_=>false
def yV{S:Nat->Type}:TO S->Bool
 |.run _=>true
 |_=>false
def SV{S:Nat->Type}:TO S->Bool
 |.out .normal=>true
 |_=>false
def Rb{α:Type}:List α->Nat->Bool
 | [],_=>true
 |_::_,0=>false
 |_::r,n+1=>Rb r n
def noU{S:Nat->Type}(_:TM S):Bool:=false
def Rc{S:Nat->Type}(run:Bool)(n:Nat)(M:TM S):Bool:=Rb M.k n&&(bif run then yV M.o else SV M.o)
def aad{S:Nat->Type}(id:Nat)(M:TM S):Bool:=match M.o with
 |.run c=>(match c with
  |.seq (.region i _ _) _=>Nat.beq i id
  |.region i _ _=>Nat.beq i id
  |_=>false)
 |_=>false
def SX(P:Program)(N:Nat)(u:TM B.S->Bool):Nat->TM B.S->TM B.S×List (AV×AV)
 |0,M=>(M,[])
 |f+1,M=>bif u M then(M,[])else match stepT B P N M with
  |some (M',q)=>(match SX P N u f M' with
   |(M2,q2)=>(M2,q++q2))
  |none=>(M,[])
end
section
variable {B:jc} {P:Program} {N:Nat} {ρ:Option Nat} {Q:Exit->Env->St->Prop}
def Re(B:jc)(P:Program)(s:dP B.S)(n:List (oh B.S)):Prop:= ∀t∈n,fV t.op=true/\(t.ok=true->iX P t.op (eJ B t.e) (dl B s)=some (t.v.er B.E,dl B s))
def YK(P:Program)(N:Nat)(ρ:Option Nat)(Q:Exit->Env->St->Prop)(k:List Fr):Option Code->Env->St->Prop
 |some y=>lT P N ρ y (QK P N ρ Q k)
 |none=>λbI s=>wW P N ρ Q ⟨.out .normal,k,bI,s⟩
def kD(B:jc)(P:Program)(N:Nat)(ρ:Option Nat)(Q:Exit->Env->St->Prop)(M:TM B.S):Prop:=match M.o with
 |.run c=>wW P N ρ Q ⟨.run c,M.k,eJ B M.bI,dl B M.s⟩
 |.out e=>wW P N ρ Q ⟨.out e,M.k,eJ B M.bI,dl B M.s⟩
 |.ro l y=>qt P (YK P N ρ Q M.k y) l (eJ B M.bI) (dl B M.s)
 |.po r d l y=>r.wp λv s'=>qt P (YK P N ρ Q M.k y) l (fF d (v.er B.E) (eJ B M.bI)) (dl B s')
 |.rd l n y=>Re B P M.s n->dq P (YK P N ρ Q M.k y) l (vt B n) (eJ B M.bI) (dl B M.s)
 |.pl r i b op e d l n y=>fV op=true->lU B r (iX P op (eJ B e) (dl B M.s))->Re B P M.s n->match iX P op (eJ B e) (dl B M.s)with
  |some (v,_)=>dq P (YK P N ρ Q M.k y) l (if b then(i,op,eJ B e,v)::vt B n else vt B n) (fF d v (eJ B M.bI)) (dl B M.s)
  |none=>False
 |.ph r c d l n y=>Re B P M.s n->r.wp λv s'=>wU P (vt B n) (dl B s') c/\dq P (YK P N ρ Q M.k y) l (vt B n) (fF d (v.er B.E) (eJ B M.bI)) (dl B s')
structure RT (B:jc) (P:Program) (N:Nat) (ρ:Option Nat) (Q:Exit->Env->St->Prop) (M:TM B.S):Prop where
 v:kD B P N ρ Q M
theorem iB{d:Option Nat}{v:TV B.S}{bI:dK B.S}:eJ B (je d v bI)=fF d (v.er B.E) (eJ B bI):=by
 cases d with
 |none=>rfl
 |some d=>exact xn
theorem od{sl:List Nat}{bI:dK B.S}:eJ B (nB sl bI)=iR sl (eJ B bI):=by
 induction sl with
 |nil=>rfl
 |cons t r ih=>
  rw[Gc,lB]
  simp only[nB]
  cases bH bI t with
  |none=>exact ih
  |some x=>simp only[eJ,gy,ih]
theorem yC{g:Option (Nat×Bool)}{bI:dK B.S}{A C:Prop}(h:match FJ B g bI with
  |.go=>A
  |.skip=>C
  |_=>False):FE g (eJ B bI) A C:=by
 unfold FJ at h
 unfold FE
 cases g with
 |none=>exact h
 |some q=>
  obtain⟨d,want⟩:=q
  simp only at h |-
  rw[lB]
  cases hv:bH bI d with
  |none=>rw[hv]at h;exact h.elim
  |some v=>
   rw[hv]at h
   simp only[gy]at h |-
   cases hb:KJ B v with
   |none=>
    rw[hb]at h
    simp only at h
    cases hn:rz v with
    |false=>rw[hn]at h;exact h.elim
    |true=>
     rw[hn]at h
     have:v.er B.E=.ec []:=by
      unfold rz at hn
      split at hn<;>first|rfl|cases hn
     rw[this];exact h
   |some p=>
    obtain⟨st,b⟩:=p
    rw[hb]at h
    simp only at h
    cases st with
    |false=>exact h.elim
    |true=>
     rw[sU hb]
     simp only[cS]at h |-
     cases b<;>cases want<;>simp_all
theorem ri{g:Option (Nat×Bool)}{bI:dK B.S}{A C:Env->Prop}(h:match FJ B g bI with
  |.go=>A (eJ B bI)
  |.skip=>C (eJ B bI)
  |_=>False):FH g (eJ B bI) A C:=by
 unfold FJ at h
 unfold FH
 cases g with
 |none=>exact h
 |some q=>
  obtain⟨d,want⟩:=q
  simp only at h |-
  have hg:=lB (B:=B) (bI:=bI) (t:=d)
  rw[hg]
  cases hv:bH bI d with
  |none=>rw[hv]at h;exact h.elim
  |some v=>
   rw[hv]at h hg
   simp only[gy]at h hg |-
   cases hb:KJ B v with
   |none=>
    rw[hb]at h
    simp only at h
    cases hn:rz v with
    |false=>rw[hn]at h;exact h.elim
    |true=>
     rw[hn]at h
     have:v.er B.E=.ec []:=by
      unfold rz at hn
      split at hn<;>first|rfl|cases hn
     rw[this];exact h
   |some p=>
    obtain⟨st,b⟩:=p
    rw[hb]at h
    simp only at h
    cases st with
    |false=>exact h.elim
    |true=>
     rw[sU hb]at hg |-
     have key: ∀c,b=c->eg (eJ B bI) d (.bool c)=eJ B bI:=λc e=>by subst e;exact nU hg
     simp only[cS]at h |-
     refine⟨λe=>?_,λe=>?_⟩
     ·rw[key _ e];subst e;simpa using h
     ·rw[key _ e];subst e
      have:((!want)==want)=false:=by cases want<;>rfl
      rw[this]at h;exact h
theorem yW{op:Op}(h:fV op=true):ga op=none:=by
 cases op<;>simp only[fV]at h<;>first|rfl|(cases h;done)|skip
 rename_i c
 obtain⟨callee,a,t⟩:=c
 cases callee<;>first|rfl|(simp at h)
theorem SY{op:Op}{own:Bool}{bI:dK B.S}{s:dP B.S}{K:TV B.S->dP B.S->Prop}{K':AV->St->Prop}(hc:ga op=none)(hk: ∀v s',K v s'->K' (v.er B.E) (dl B s'))(h:(top B P own op bI s).wp K):Pa P op K' (eJ B bI) (dl B s):=by
 have bR:(top B P false op bI s).wp K->Pa P op K' (eJ B bI) (dl B s):=λh=>by
  obtain⟨v,s',e,hK⟩:=yU (B:=B) (P:=P) hc K h
  refine .inl ?_
  unfold ows
  simp only[hc,e]
  exact hk v s' hK
 cases own with
 |false=>exact bR h
 |true=>
  have same:(∃t len cA,op=.buildSlice t len cA)\/top B P true op bI s=top B P false op bI s:=by
   cases op<;>first|exact .inr rfl|exact .inl ⟨_,_,_,rfl⟩|skip
   rename_i fn _ _
   cases fn<;>exact .inr rfl
  rcases same with⟨t,len,cA,rfl⟩|e
  case inr=>rw[e]at h;exact bR h
  refine .inr (.inl ?_)
  simp only[top]at h
  split at h
  ·rename_i l hl
   have:=qA (B:=B) (P:=P) (s:=s) (t:=t) (len:=len) (own:=true) (cA:=l) K h
   obtain⟨v,s',e,hK⟩:=this
   refine⟨v.er B.E,dl B s',?_,hk v s' hK⟩
   simp only[cS]at e
   simp only[Gf,ry,hl,gy]
   rw[<-e]
   simp only[mB,dl]
   cases fZ P t len (List.map (λp=>(p.fst,TV.er B.E p.snd)) l)with
   |none=>rfl
   |some _=>cases eh P t<;>rfl
  ·exact h.elim
theorem MG{n:List (oh B.S)}{j:Nat}:Bc (vt B n) j=(Bs n j).map λt=>(t.op,eJ B t.e,t.v.er B.E):=by
 induction n with
 |nil=>rfl
 |cons t r ih=>
  simp only[vt,xb,Bc,Bs]
  by_cases h:t.i=j
  ·rw[dD h];subst h;rw[show Nat.beq t.i t.i=true from Og _];rfl
  ·rw[dM h]
   have:Nat.beq t.i j=false:=by
    cases hq:Nat.beq t.i j with
    |false=>rfl
    |true=>exact absurd (jh hq) h
   rw[this];exact ih
theorem J4{S:Nat->Type}{n:List (oh S)}{j:Nat}{t:oh S}(h:Bs n j=some t):t∈n:=by
 induction n with
 |nil=>cases h
 |cons a r ih=>
  simp only[Bs]at h
  cases hq:Nat.beq a.i j with
  |true=>rw[hq]at h;cases h;simp
  |false=>rw[hq]at h;exact Jh _ (ih h)
theorem MH{t:oh B.S}{s:dP B.S}{q:List (AV×AV)}(h:MC B P t s=some q)(hq: ∀p∈q,p.1=p.2)(hl:fV t.op=true):iX P t.op (eJ B t.e) (dl B s)=some (t.v.er B.E,dl B s):=by
 unfold MC at h
 split at h
 ·rename_i v s2 ht
  cases h
  obtain⟨v',s',e,e1,e2⟩:=yU (B:=B) (P:=P) (s:=s) (op:=t.op) (bI:=t.e) (yW hl) (λa b=>a=v/\b=s2) (by rw[ht];exact⟨rfl,rfl⟩)
  subst e1;subst e2
  have hv:v'.er B.E=t.v.er B.E:=hq (v'.er B.E,t.v.er B.E) (by simp)
  rw[e,oS hl e,hv]
 ·cases h
theorem nf{same:Bool}{n:List (oh B.S)}{s s0:dP B.S}(hl:Re B P s0 n)(hs:same=true->Re B P s n): ∀{c:List Nat}{q:List (AV×AV)},El B P same n s c=some q->(∀p∈q,p.1=p.2)->wU P (vt B n) (dl B s) c
 | [],_,_,_=>trivial
 |j::r,q,h,hq=>by
  unfold El at h
  unfold wU
  rw[MG]
  split at h
  ·rename_i hf
   rw[hf]
   exact⟨trivial,nf hl hs h hq⟩
  ·rename_i t hf
   rw[hf]
   simp only[gy]
   have ht:=J4 hf
   cases hb:(same||Wm t.op (eJ B t.e))&&t.ok with
   |true=>
    simp only[hb,cS]at h
    simp only[fi,tz]at hb
    refine⟨?_,nf hl hs h hq⟩
    cases hb.1 with
    |inl h1=>exact(hs h1 t ht).2 hb.2
    |inr h1=>exact MD h1 ((hl t ht).2 hb.2)
   |false=>
    simp only[hb,dj]at h
    split at h
    ·rename_i q1 h1
     split at h
     ·rename_i q2 h2
      cases h
      exact⟨MH h1 (λp hp=>hq p (Dn _ hp)) (hl t ht).1,nf hl hs h2 λp hp=>hq p (FA _ hp)⟩
     ·cases h
    ·cases h
theorem rm{n:List (oh B.S)}:vt B (wo B n)=vt B n:=by simp[vt,wo]
theorem rk{n:List (oh B.S)}{s s':dP B.S}(h:Re B P s n):Re B P s' (wo B n):=by
 intro t ht
 obtain⟨u,hu,rfl⟩:=jJ.1 ht
 refine⟨(h u hu).1,λe=>?_⟩
 simp only[fi]at e
 exact MD e.2 ((h u hu).2 e.1)
theorem Bt{y:Option Code}{k:List Fr}{bI:dK B.S}{s:dP B.S}(h:kD B P N ρ Q ⟨CD y,k,bI,s⟩):YK P N ρ Q k y (eJ B bI) (dl B s):=by
 cases y with
 |none=>exact h
 |some c=>exact h
theorem MI{c:Code}{k:List Fr}{bI:Env}{s:St}(h:lT P N ρ c (λe bI s=>e=.normal/\wW P N ρ Q ⟨.out .normal,k,bI,s⟩) bI s):lT P N ρ c (QK P N ρ Q k) bI s:=by
 intro G w a hn
 refine wpIn_mono (h G w a hn) ?_
 rintro e2 a2 w2 ⟨G',env',s2,n',x',rfl,hk⟩
 obtain⟨G3,O4,s3,n3,x3,q3⟩:=hk G' w2 a2 n'
 exact⟨G3,O4,s3,n3,x'.trans hn.iQ x3,q3⟩
theorem wu{ops:Array Oper}{d:Bool}{id:Nat}{y:Option Code}{o:TO B.S}{k:List Fr}{bI:dK B.S}{s:dP B.S}(h:qB B P N ops d y=some o)(hk:kD B P N ρ Q ⟨o,k,bI,s⟩):
  lT P N ρ (match y with|some y=>.seq (.region id ops d) y|none=>.region id ops d) (QK P N ρ Q k) (eJ B bI) (dl B s):=by
 have fin: ∀Q':Exit->Env->St->Prop,(Q'=λe bI s=>e=.normal/\YK P N ρ Q k y bI s)->lT P N ρ (.region id ops d) Q' (eJ B bI) (dl B s):=by
  intro Q' hQ
  cases d with
  |false=>
   simp only[qB]at h
   cases hg:(nS ops.toList&&qj N ops.toList)with
   |false=>simp[hg]at h
   |true=>
    simp only[hg,cS]at h
    cases h
    simp only[fi]at hg
    refine LZ (K:=YK P N ρ Q k y) ops.toList rfl hg.1 hg.2 ?_
    have e:(λbI s=>Q' .normal bI s)=YK P N ρ Q k y:=by subst hQ;funext bI s;simp
    rw[e];exact hk
  |true=>
   simp only[qB]at h
   generalize hp:Ik ops.toList=pl at h
   obtain⟨pre,st⟩:=pl
   simp only at h
   cases hg:(LQ P N ops.toList pre st&&(Sg (ins ops.toList) st).all KN&&P.follows .mixedOrders)with
   |false=>simp[hg]at h
   |true=>
    simp only[hg,cS]at h
    cases h
    simp only[fi]at hg
    have lx:dq P (YK P N ρ Q k y) (Sg (ins ops.toList) st) [] (eJ B bI) (dl B s):=hk (λt ht=>by cases ht)
    have e:(λbI s=>Q' .normal bI s)=YK P N ρ Q k y:=by subst hQ;funext bI s;simp
    refine LL pre st ops.toList rfl hg.2 (LR hg.1.1) (qY (oV (tr:=[]) ?_))
    rw[LS]at lx
    rw[e];exact lx
 cases y with
 |none=>exact MI (fin _ rfl)
 |some y=>
  refine BZ ?_
  intro G w a hn
  refine wpIn_mono (fin _ rfl G w a hn) ?_
  rintro e2 a2 w2 ⟨G',env',s2,n',x',rfl,hk⟩
  exact⟨G',env',s2,n',x',hk⟩
theorem GG{c:Code}{k:List Fr}{bI:dK B.S}{s:dP B.S}{M':TM B.S}{q:List (AV×AV)}(h:CB B P N c k bI s=some (M',q))(hk:kD B P N ρ Q M'):lT P N ρ c (QK P N ρ Q k) (eJ B bI) (dl B s):=by
 unfold CB at h
 split at h
 ·rename_i x y
  split at h
  ·rename_i id ops d
   split at h
   ·rename_i o ho
    cases h
    exact wu (id:=id) (y:=some y) ho hk
   ·cases h
  ·cases h
   exact BZ hk
 ·rename_i id ops d
  split at h
  ·rename_i o ho
   cases h
   exact wu (id:=id) (y:=none) ho hk
  ·cases h
 ·cases h;exact Jm hk
 ·cases h;exactλG w a hn=>wpIn_skip (hk G w a hn)
 ·cases h;exactλG w a hn=>wpIn_exit (hk G w a hn)
 ·cases h
  have hk:lT P N ρ _ (Ya (QK P N ρ Q k)) (eJ B bI) (dl B s):=hk
  exact(JO hk λ_ _ _ h=>h).mono λ_ _ _ h=>h.to
 ·cases h;exactλG w a hn=>wpIn_label (hk G w a hn)
 ·cases h;exactλG w a hn=>wpIn_ret (hk G w a hn)
 ·rename_i t x y
  split at h
  ·rename_i v hv
   split at h
   ·rename_i st b hb
    cases st with
    |false=>cases h
    |true=>
     simp only[cS]at h
     cases h
     have hc:oper (eJ B bI) t=some (.bool b):=by rw[ew,hv,gy,sU hb]
     exact DJ hc (λe=>by subst e;exact hk) (λe=>by subst e;exact hk)
   ·cases h
  ·cases h
 ·cases h
theorem GH{e:Exit}{k:List Fr}{bI:dK B.S}{s:dP B.S}{M':TM B.S}{q:List (AV×AV)}(h:CC B e k bI s=some (M',q))(hk:kD B P N ρ Q M'):wW P N ρ Q ⟨.out e,k,eJ B bI,dl B s⟩:=by
 unfold CC at h
 split at h
 ·cases h
 ·rename_i fr k
  split at h
  ·rename_i y
   split at h
   ·cases h;exactλG w a hn=>hn.after hk
   ·rename_i eV
    cases h
    intro G w a hn
    refine ia.of (hk G w a hn) λbI s hq=>?_
    cases e with
    |normal=>exact absurd rfl eV
    |exit _=>exact hq
    |goto _=>exact hq
    |ret=>exact hq
    |panic _=>exact hq
    |outgrown=>exact hq
  ·rename_i id
   split at h
   ·rename_i j
    cases hb:Nat.beq j id with
    |true=>
     rw[hb]at h
     cases h
     intro G w a hn
     refine ia.of (hk G w a hn) λbI s hq=>?_
     show oN id (QK P N ρ Q k) (.exit j) bI s
     simp only[oN]
     rw[dD (jh hb)];exact hq
    |false=>
     rw[hb]at h
     cases h
     intro G w a hn
     refine ia.of (hk G w a hn) λbI s hq=>?_
     show oN id (QK P N ρ Q k) (.exit j) bI s
     simp only[oN]
     rw[dM (λe=>by subst e;rw[show Nat.beq j j=true from Og j]at hb;cases hb)];exact hq
   ·rename_i eV
    cases h
    intro G w a hn
    refine ia.of (hk G w a hn) λbI s hq=>?_
    cases e with
    |exit j=>exact absurd rfl (eV j)
    |normal=>exact hq
    |goto _=>exact hq
    |ret=>exact hq
    |panic _=>exact hq
    |outgrown=>exact hq
  ·cases h
  ·split at h
   ·cases h
   ·rename_i eV
    cases h
    intro G w a hn
    refine ia.of (hk G w a hn) λbI s hq=>?_
    cases e with
    |goto l=>exact absurd rfl (eV l)
    |normal=>exact hq
    |exit _=>exact hq
    |ret=>exact hq
    |panic _=>exact hq
    |outgrown=>exact hq
theorem MJ{l:List Ins}{y:Option Code}{k:List Fr}{bI:dK B.S}{s:dP B.S}{M':TM B.S}{q:List (AV×AV)}(h:ME B P l y k bI s=some (M',q))(hk:kD B P N ρ Q M'):qt P (YK P N ρ Q k y) l (eJ B bI) (dl B s):=by
 unfold ME at h
 split at h
 ·cases h;exact Bt hk
 ·rename_i i l
  show FE _ _ _ _
  refine yC (B:=B) ?_
  split at h
  ·rename_i hg
   cases hc:(ga i.op).isSome with
   |true=>rw[hc]at h;cases h
   |false=>
    rw[hc]at h
    cases h
    have hc:ga i.op=none:=by cases hq:ga i.op<;>simp_all
    exact SY hc (K':=λv s'=>qt P (YK P N ρ Q k y) l (fF i.dst v (eJ B bI)) s') (λv s' h=>h) hk
  ·rename_i hg
   cases h
   have:qt P (YK P N ρ Q k y) l (eJ B (je i.dst (.ec []) bI)) (dl B s):=hk
   rw[iB]at this
   exact this
  ·cases h
theorem MK{l:List DI}{n:List (oh B.S)}{y:Option Code}{k:List Fr}{bI:dK B.S}{s:dP B.S}{M':TM B.S}{q:List (AV×AV)}(h:MF B P l n y k bI s=some (M',q))(hk:kD B P N ρ Q M')(hn:Re B P s n):dq P (YK P N ρ Q k y) l (vt B n) (eJ B bI) (dl B s):=by
 unfold MF at h
 split at h
 ·cases h;exact Bt hk
 ·rename_i st i sl l
  have skip:kD B P N ρ Q ⟨.rd l n y,k,je i.dst (.ec []) bI,s⟩->dq P (YK P N ρ Q k y) l (vt B n) (fF i.dst (.ec []) (eJ B bI)) (dl B s):=λh=>by
   have:=h hn
   simp only[iB]at this
   exact this
  split at h
  ·rename_i j b
   show FH _ _ _ _
   refine ri (B:=B) ?_
   split at h
   ·rename_i hg
    cases hl:fV i.op with
    |false=>rw[hl]at h;cases h
    |true=>
     rw[hl]at h
     cases h
     have:=hk hl (yU (yW hl)) hn
     rw[od]at this
     cases b with
     |true=>exact this
     |false=>exact this
   ·rename_i hg
    cases h
    exact skip hk
   ·cases h
  ·rename_i j c
   show FH _ _ _ _
   refine ri (B:=B) ?_
   split at h
   ·rename_i hg
    cases hc:(ga i.op).isSome with
    |true=>rw[hc]at h;cases h
    |false=>
     rw[hc]at h
     cases h
     have hc:ga i.op=none:=by cases hq:ga i.op<;>simp_all
     obtain⟨v,s',e,h1,h2⟩:=yU (B:=B) (P:=P) hc _ (hk hn)
     rw[od]at e
     show ows _ _ _ _ _
     unfold ows
     simp only[hc,e]
     exact⟨h1,h2⟩
   ·rename_i hg
    cases h
    exact skip hk
   ·cases h
  ·rename_i j
   split at h
   ·rename_i v s' hv
    cases hc:(ga i.op).isSome with
    |true=>rw[hc]at h;cases h
    |false=>
     rw[hc]at h
     cases h
     have hc:ga i.op=none:=by cases hq:ga i.op<;>simp_all
     obtain⟨v',s2,e,e1,e2⟩:=yU (B:=B) (P:=P) (s:=s) (bI:=[]) hc (λa b=>a=v/\b=s') (by rw[hv];exact⟨rfl,rfl⟩)
     subst e1;subst e2
     have e:iX P i.op [] (dl B s)=_:=e
     have:=hk (rk hn)
     simp only[iB,rm]at this
     simp only[dq,e]
     exact this
   ·cases h
 ·cases h
theorem ML{M M':TM B.S}{q:List (AV×AV)}(h:stepT B P N M=some (M',q))(hq: ∀p∈q,p.1=p.2)(hk:kD B P N ρ Q M'):kD B P N ρ Q M:=by
 obtain⟨o,k,bI,s⟩:=M
 unfold stepT at h
 split at h
 ·rename_i c ho
  simp only at ho;subst ho
  exact GG h hk
 ·rename_i e ho
  simp only at ho;subst ho
  exact GH h hk
 ·rename_i l y ho
  simp only at ho;subst ho
  exact MJ h hk
 ·rename_i r d l y ho
  simp only at ho;subst ho
  split at h
  ·rename_i v s'
   cases h
   have:qt P (YK P N ρ Q k y) l (eJ B (je d v bI)) (dl B s'):=hk
   rw[iB]at this
   exact this
  ·rename_i a b r
   cases h
   exact⟨hq (a,b) (by simp),hk⟩
  ·cases h
 ·rename_i l n y ho
  simp only at ho;subst ho
  exactλhn=>MK h hk hn
 ·rename_i r i b op e d l n y ho
  simp only at ho;subst ho
  intro hl hs hn
  split at h
  ·rename_i v s'
   cases h
   obtain⟨v',s2,e0,e1,e2⟩:=hs (λa b=>a=v/\b=s') ⟨rfl,rfl⟩
   subst e1;subst e2
   have h0:=oS hl e0
   simp only[e0]
   cases b with
   |true=>
    have:=hk (by
     intro t ht
     rcases mU.1 ht with rfl|ht
     ·exact⟨hl,λ_=>by have e:=e0;rw[h0]at e;exact e⟩
     ·exact hn t ht)
    simp only[iB]at this
    exact this
   |false=>
    have:=hk hn
    simp only[iB]at this
    exact this
  ·rename_i a b' r
   cases h
   refine hk hl (λK hK=>hs K ⟨hq (a,b') (by simp),hK⟩) hn
  ·cases h
 ·rename_i r c d l n y ho
  simp only at ho;subst ho
  intro hn
  split at h
  ·rename_i v s'
   split at h
   ·rename_i q' hc
    cases h
    have:=hk (rk hn)
    simp only[iB,rm]at this
    exact⟨nf hn (λe=>by cases e) hc hq,this⟩
   ·cases h
  ·rename_i a b r
   cases h
   exact⟨hq (a,b) (by simp),hk hn⟩
  ·cases h
theorem kE{u:TM B.S->Bool}: ∀{f:Nat}{M:TM B.S},(∀p∈(SX B P N u f M).2,p.1=p.2)->kD B P N ρ Q (SX B P N u f M).1->kD B P N ρ Q M
 |0,_,_,h=>h
 |f+1,M,hq,h=>by
  unfold SX at hq h
  cases hu:u M with
  |true=>rw[hu]at h;exact h
  |false=>
   rw[hu]at hq h
   simp only[dj]at hq h
   cases hs:stepT B P N M with
   |none=>rw[hs]at h;exact h
   |some r=>
    obtain⟨M',q⟩:=r
    rw[hs]at hq h
    simp only at hq h
    exact ML hs (λp hp=>hq p (Dn _ hp)) (kE (λp hp=>hq p (FA _ hp)) h)
end
end Go.Am
