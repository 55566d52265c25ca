/- The logic AM, V: a machine on typed states, that stops where something is to be known; it is sound. -/
import Derived.Test.YtgpciecmgoppiaaGreatAmU
set_option linter.all false
namespace Go.Am
open Go.RowKit
structure oG (S:Nat->Type) where
 i:Nat
 op:Op
 e:dB S
 v:TV S
 ok:Bool
inductive TO (S:Nat->Type) where
 |run (c:Code)
 |out (e:Exit)
 |ro (l:List Ins) (y:Option Code)
 |po (r:TR S) (d:Option Nat) (l:List Ins) (y:Option Code)
 |rd (l:List DI) (n:List (oG S)) (y:Option Code)
 |pl (r:TR S) (i:Nat) (b:Bool) (op:Op) (e:dB S) (d:Option Nat) (l:List DI) (n:List (oG S)) (y:Option Code)
 |ph (r:TR S) (c:List Nat) (d:Option Nat) (l:List DI) (n:List (oG S)) (y:Option Code)
structure TM (S:Nat->Type) where
 o:TO S
 k:List Fr
 bf:dB S
 s:dH S
def jh{S:Nat->Type}(d:Option Nat)(v:TV S)(bf:dB S):dB S:=match d with
 |some d=>dM bf d v
 |none=>bf
def lD{S:Nat->Type}:List Nat->dB S->dB S
 | [],_=>[]
 |t::r,bf=>match bn bf t with
  |some x=>(t,x)::lD r bf
  |none=>lD r bf
inductive GD where
 |go
 |skip
 |ask (d:Nat) (b:Bool)
 |no
def ul{S:Nat->Type}:TV S->Bool
 |.dS []=>true
 |.a (.dS [])=>true
 |_=>false
section
variable (B:iU)
def Gc(g:Option (Nat×Bool))(bf:dB B.S):GD:=match g with
 |none=>.go
 |some (d,want)=>match bn bf d with
  |some v=>match LQ B v with
   |some (st,b)=>bif st then(bif (b==want)then .go else .skip)else .ask d b
   |none=>bif ul v then .skip else .no
  |none=>.no
def aaK:Op->Bool
 |.assign _=>true
 |.move _=>true
 |.store _ _ _=>true
 |_=>false
def ND(d:Nat)(i:Ins):Bool:=(IC i.op).any λx=>Nat.beq x d
def Um(i:Ins)(l:List Ins):Bool:=match i.op with
 |.buildSlice _ len _=>match i.dst,i.guard with
  |some d,none=>!(Nat.beq len 0)&&l.any (ND d)&&l.all (λj=>!(ND d j)||aaK j.op)
  |_,_=>false
 |_=>false
def Xq(d:Nat):Option Operand->Bool
 |some (.tmp t)=>Nat.beq t d
 |_=>false
def fzU(d:Nat)(op:Op):Bool:=match op with
 |.build _ _=>true
 |.buildSlice _ _ _=>true
 |.call c=>match c.callee with
  |.builtin .append=>Xq d c.args.toList[1]?&&!Xq d c.args.toList[0]?
  |.builtin _=>false
  |_=>true
 |_=>false
def QT(i:Ins)(l:List Ins):Bool:=match i.op with
 |.call c=>match c.callee,i.dst with
  |.builtin .append,some d=>l.any λj=>ND d j&&fzU d j.op
  |_,_=>false
 |_=>false
def QU:AV->AV
 |.sl _ l=>.sl false l
 |x=>x
theorem Hi{G:bS}{x:AV}{v:Value}(h:V G x v):V G (QU x) v:=by
 cases x<;>first|exact h|skip
 rename_i f l;cases h with
 |slnil _ bG cap hf hb=>exact .slnil false bG cap (λe=>by cases e) hb
 |sl _ _ b off cq cap val jC jX eo kI gE hV=>exact .sl false l b off cq cap val jC (λe=>by cases e) eo kI gE hV
def lx0{S:Nat->Type}:TV S->TV S
 |.s _ l=>.s false l
 |.l _ c l=>.l false c l
 |.a x=>.a (QU x)
 |v=>v
def Xr{S:Nat->Type}:TV S->Bool
 |.s f _=>f
 |.l f _ _=>f
 |.a (.sl f _)=>f
 |_=>false
def lxV{S:Nat->Type}:TV S->TV S
 |.s b [.agg cs]=>.s b [.agg (cs.map lx0)]
 |v=>v
def V6{S:Nat->Type}:dB S->dB S
 | []=>[]
 |(t,v)::r=>(t,lxV v)::V6 r
def lxA{S:Nat->Type}(l:List (TV S))(s:dH S):Bool:=match l with
 | [.a (.ms id _ _),.s _ [.agg cs]]=>(match bn s.heap id with
  |some (.ls _ _ _ _ _)=>cs.any Xr
  |_=>false)
 |_=>false
def Zj{S:Nat->Type}(op:Op)(bf:dB S)(s:dH S):Bool:=match op with
 |.call c=>(match c.callee with
  |.builtin .append=>(match nU bf c.args.toList with
   |some l=>lxA l s
   |none=>false)
  |_=>false)
 |_=>false
def aaL{S:Nat->Type}:TV S->Bool
 |.s _ _=>false
 |_=>true
def noS{S:Nat->Type}(bf:dB S)(op:Op):Bool:=match op with
 |.buildSlice _ _ bW=>(match sP bf bW.toList with
  |some l=>l.all λp=>aaL p.2
  |none=>true)
 |_=>true
def Bp{S:Nat->Type}:List (oG S)->Nat->Option (oG S)
 | [],_=>none
 |t::r,i=>bif Nat.beq t.i i then some t else Bp r i
def NE(P:Program)(t:oG B.S)(s:dH B.S):Option (List (AV×AV)):=match top B P false t.op t.e s with
 |.ok v _=>some [(v.er B.E,t.v.er B.E)]
 |_=>none
def Xs(op:Op)(bf:Env):Bool:=match op with
 |.indexAddr _ x _=>(match oper bf x with
  |some (.sl _ _)=>true
  |some (.ip _)=>true
  |_=>false)
 |.load _ x=>(match oper bf x with
  |some (.ip _)=>true
  |_=>false)
 |.slice _ x _ _ _=>(match oper bf x with
  |some (.str _)=>true
  |some (.sl _ _)=>true
  |_=>false)
 |op=>kx op
theorem NF{P:Program}{op:Op}{bf:Env}{s s2:St}{x:AV}(hf:Xs op bf=true)(h:gH P op bf s=some (x,s)):gH P op bf s2=some (x,s2):=by
 unfold Xs at hf;split at hf
 ·rename_i t y i;simp only[gH]at h |-
  split at hf
  ·rename_i b l hy;simp only[hy]at h |-
   cases hi:oper bf i with
   |none=>grind
   |some n=>
    simp only[hi]at h |-
    have e:eC P t (.sl b l) n s=eC P t (.sl b l) n s2:=by rfl
    rw[e]at h;obtain⟨h,_⟩:=dC h;simp[fC,h]
  ·rename_i l hy;simp only[hy]at h |-
   cases hi:oper bf i with
   |none=>grind
   |some n=>
    simp only[hi]at h |-
    have e:eC P t (.ip l) n s=eC P t (.ip l) n s2:=by rfl
    rw[e]at h;obtain⟨h,_⟩:=dC h;simp[fC,h]
  ·cases hf
 ·rename_i t y;simp only[gH]at h |-
  split at hf
  ·rename_i l hy;simp only[hy]at h |-
   have e:nG P t (.ip l) s=nG P t (.ip l) s2:=rfl;rw[e]at h;obtain⟨h,_⟩:=dC h;simp[fC,h]
  ·cases hf
 ·rename_i t y lo hi mx;simp only[gH]at h |-
  split at hf
  ·rename_i b hy;simp only[hy]at h |-
   have e:kf P t (.str b) bf lo hi mx s=kf P t (.str b) bf lo hi mx s2:=rfl;rw[e]at h;obtain⟨h,_⟩:=dC h;simp[fC,h]
  ·rename_i b l hy;simp only[hy]at h |-
   have e:kf P t (.sl b l) bf lo hi mx s=kf P t (.sl b l) bf lo hi mx s2:=rfl;rw[e]at h;obtain⟨h,_⟩:=dC h;simp[fC,h]
  ·cases hf
 ·exact nh hf h
def Eu(P:Program)(same:Bool)(n:List (oG B.S))(s:dH B.S):List Nat->Option (List (AV×AV))
 | []=>some []
 |j::r=>match Bp n j with
  |none=>Eu P same n s r
  |some t=>bif (same||Xs t.op (eI B t.e))&&t.ok then Eu P same n s r else match NE B P t s with
   |some q=>match Eu P same n s r with
    |some q2=>some (q++q2)
    |none=>none
   |none=>none
def wD(n:List (oG B.S)):List (oG B.S):=n.map λt=>⟨t.i,t.op,t.e,t.v,t.ok&&Xs t.op (eI B t.e)⟩
def vH(n:List (oG B.S)):List (Nat×Op×Env×AV):=n.map λt=>(t.i,t.op,eI B t.e,t.v.er B.E)
def qG(P:Program)(N:Nat)(ops:Array Oper)(d:Bool)(y:Option Code):Option (TO B.S):=match d with
 |false=>bif jY ops.toList&&mw N ops.toList then some (.ro (ins ops.toList) y)else none
 |true=>match IJ ops.toList with
  |(pre,st)=>bif D6 P N ops.toList pre st&&(ID (ins ops.toList) st).all sN&&P.follows .mixedOrders then some (.rd (ID (ins ops.toList) st) [] y)else none
abbrev SR(S:Nat->Type):=Option (TM S×List (AV×AV))
def CH(P:Program)(N:Nat)(c:Code)(k:List Fr)(bf:dB B.S)(s:dH B.S):SR B.S:=match c with
 |.seq x y=>match x with
  |.region _ ops d=>match qG B P N ops d (some y)with
   |some o=>some (⟨o,k,bf,s⟩,[])
   |none=>none
  |x=>some (⟨.run x,.seq y::k,bf,s⟩,[])
 |.region _ ops d=>match qG B P N ops d none with
  |some o=>some (⟨o,k,bf,s⟩,[])
  |none=>none
 |.block id x=>some (⟨.run x,.blk id::k,bf,s⟩,[])
 |.skip=>some (⟨.out .normal,k,bf,s⟩,[])
 |.exit id=>some (⟨.out (.exit id),k,bf,s⟩,[])
 |.scope x=>some (⟨.run x,.sc::k,bf,s⟩,[])
 |.label _=>some (⟨.out .normal,k,bf,s⟩,[])
 |.ret=>some (⟨.out .ret,k,bf,s⟩,[])
 |.cond t x y=>match fp bf t with
  |some v=>match LQ B v with
   |some (st,b)=>bif st then some (⟨.run (bif b then x else y),k,bf,s⟩,[])else none
   |none=>none
  |none=>none
 |_=>none
def CI(e:Exit)(k:List Fr)(bf:dB B.S)(s:dH B.S):SR B.S:=match k with
 | []=>none
 |fr::k=>match fr with
  |.seq y=>match e with
   |.normal=>some (⟨.run y,k,bf,s⟩,[])
   |e=>some (⟨.out e,k,bf,s⟩,[])
  |.blk id=>match e with
   |.exit j=>bif Nat.beq j id then some (⟨.out .normal,k,bf,s⟩,[])else some (⟨.out (.exit j),k,bf,s⟩,[])
   |e=>some (⟨.out e,k,bf,s⟩,[])
  |.lp _ _=>none
  |.sc=>match e with
   |.goto _=>none
   |e=>some (⟨.out e,k,bf,s⟩,[])
def CJ{S:Nat->Type}(y:Option Code):TO S:=match y with
 |some c=>.run c
 |none=>.out .normal
def NG(P:Program)(l:List Ins)(y:Option Code)(k:List Fr)(bf:dB B.S)(s:dH B.S):SR B.S:=match l with
 | []=>some (⟨CJ y,k,bf,s⟩,[])
 |i::l=>match Gc B i.guard bf with
  |.go=>bif (fW i.op).isSome then none else bif Zj i.op bf s then some (⟨.po (TR.QJ B (QT i l) (top B P false i.op (V6 bf) s)) i.dst l y,k,bf,s⟩,[])else some (⟨.po (TR.QJ B (QT i l) (top B P (Um i l&&noS bf i.op) i.op bf s)) i.dst l y,k,bf,s⟩,[])
  |.skip=>some (⟨.ro l y,k,jh i.dst (.dS []) bf,s⟩,[])
  |_=>none
def NH(P:Program)(l:List DI)(n:List (oG B.S))(y:Option Code)(k:List Fr)(bf:dB B.S)(s:dH B.S):SR B.S:=match l with
 | []=>some (⟨CJ y,k,bf,s⟩,[])
 |⟨st,some i,sl⟩::l=>match st with
  |.gP j b=>match Gc B i.guard bf with
   |.go=>bif eY i.op then some (⟨.pl (top B P false i.op (lD sl bf) s) j b i.op (lD sl bf) i.dst l n y,k,bf,s⟩,[])else none
   |.skip=>some (⟨.rd l n y,k,jh i.dst (.dS []) bf,s⟩,[])
   |_=>none
  |.gz _ c=>match Gc B i.guard bf with
   |.go=>bif (fW i.op).isSome then none else bif Zj i.op (lD sl bf) s then some (⟨.ph (TR.QJ B (QT i (l.filterMap (·.ins))) (top B P false i.op (V6 (lD sl bf)) s)) c i.dst l n y,k,bf,s⟩,[])else some (⟨.ph (TR.QJ B (QT i (l.filterMap (·.ins))) (top B P false i.op (lD sl bf) s)) c i.dst l n y,k,bf,s⟩,[])
   |.skip=>some (⟨.rd l n y,k,jh i.dst (.dS []) bf,s⟩,[])
   |_=>none
  |.alloc _=>match top B P false i.op [] s with
   |.ok v s'=>bif (fW i.op).isSome then none else some (⟨.rd l (wD B n) y,k,jh i.dst v bf,s'⟩,[])
   |_=>none
 |⟨_,none,_⟩::_=>none
def stepT(P:Program)(N:Nat)(M:TM B.S):SR B.S:=match M.o with
 |.run c=>CH B P N c M.k M.bf M.s
 |.out e=>CI B e M.k M.bf M.s
 |.ro l y=>NG B P l y M.k M.bf M.s
 |.po r d l y=>match r with
  |.ok v s'=>some (⟨.ro l y,M.k,jh d v M.bf,s'⟩,[])
  |.eq a b r=>some (⟨.po r d l y,M.k,M.bf,M.s⟩,[(a,b)])
  |_=>none
 |.rd l n y=>NH B P l n y M.k M.bf M.s
 |.pl r i b op e d l n y=>match r with
  |.ok v _=>some (⟨.rd l (bif b then⟨i,op,e,v,true⟩::n else n) y,M.k,jh d v M.bf,M.s⟩,[])
  |.eq a b' r=>some (⟨.pl r i b op e d l n y,M.k,M.bf,M.s⟩,[(a,b')])
  |_=>none
 |.ph r c d l n y=>match r with
  |.ok v s'=>match Eu B P false n s' c with
   |some q=>some (⟨.rd l (wD B n) y,M.k,jh d v M.bf,s'⟩,q)
   |none=>none
  |.eq a b r=>some (⟨.ph r c d l n y,M.k,M.bf,M.s⟩,[(a,b)])
  |_=>none
def kD{S:Nat->Type}:TO S->Bool
 |.run _=>true
 |.out _=>true
 |_=>false
def yT{S:Nat->Type}:TO S->Bool
 |.run _=>true
 |_=>false
def Un{S:Nat->Type}:TO S->Bool
 |.out .normal=>true
 |_=>false
def Sp{α:Type}:List α->Nat->Bool
 | [],_=>true
 |_::_,0=>false
 |_::r,n+1=>Sp r n
def noU{S:Nat->Type}(_:TM S):Bool:=false
def Sq{S:Nat->Type}(run:Bool)(n:Nat)(M:TM S):Bool:=Sp M.k n&&(bif run then yT M.o else Un M.o)
def aaM{S:Nat->Type}(id:Nat)(M:TM S):Bool:=match M.o with
 |.run c=>(match c with
  |.seq (.region i _ _) _=>Nat.beq i id
  |.region i _ _=>Nat.beq i id
  |_=>false)
 |_=>false
def Uo(P:Program)(N:Nat)(u:TM B.S->Bool):Nat->TM B.S->TM B.S×List (AV×AV)
 |0,M=>(M,[])
 |f+1,M=>bif u M then(M,[])else match stepT B P N M with
  |some (M',q)=>(match Uo P N u f M' with
   |(M2,q2)=>(M2,q++q2))
  |none=>(M,[])
end
section
variable {B:iU} {P:Program} {N:Nat} {ρ:Option Nat} {Q:Exit->Env->St->Prop}
def Sr(B:iU)(P:Program)(s:dH B.S)(n:List (oG B.S)):Prop:= ∀t∈n,eY t.op=true/\(t.ok=true->gH P t.op (eI B t.e) (db B s)=some (t.v.er B.E,db B s))
def YK(P:Program)(N:Nat)(ρ:Option Nat)(Q:Exit->Env->St->Prop)(k:List Fr):Option Code->Env->St->Prop
 |some y=>gY P N ρ y (QK P N ρ Q k)
 |none=>λbf s=>vE P N ρ Q ⟨.out .normal,k,bf,s⟩
def kU(B:iU)(P:Program)(N:Nat)(ρ:Option Nat)(Q:Exit->Env->St->Prop)(M:TM B.S):Prop:=match M.o with
 |.run c=>vE P N ρ Q ⟨.run c,M.k,eI B M.bf,db B M.s⟩
 |.out e=>vE P N ρ Q ⟨.out e,M.k,eI B M.bf,db B M.s⟩
 |.ro l y=>oC P (YK P N ρ Q M.k y) l (eI B M.bf) (db B M.s)
 |.po r d l y=>r.wp λv s'=>oC P (YK P N ρ Q M.k y) l (eH d (v.er B.E) (eI B M.bf)) (db B s')
 |.rd l n y=>Sr B P M.s n->dq P (YK P N ρ Q M.k y) l (vH B n) (eI B M.bf) (db B M.s)
 |.pl r i b op e d l n y=>eY op=true->ml B r (gH P op (eI B e) (db B M.s))->Sr B P M.s n->match gH P op (eI B e) (db B M.s)with
  |some (v,_)=>dq P (YK P N ρ Q M.k y) l (if b then(i,op,eI B e,v)::vH B n else vH B n) (eH d v (eI B M.bf)) (db B M.s)
  |none=>False
 |.ph r c d l n y=>Sr B P M.s n->r.wp λv s'=>rZ P (vH B n) (db B s') c/\dq P (YK P N ρ Q M.k y) l (vH B n) (eH d (v.er B.E) (eI B M.bf)) (db B s')
structure RT (B:iU) (P:Program) (N:Nat) (ρ:Option Nat) (Q:Exit->Env->St->Prop) (M:TM B.S):Prop where
 v:kU B P N ρ Q M
theorem iI{d:Option Nat}{v:TV B.S}{bf:dB B.S}:eI B (jh d v bf)=eH d (v.er B.E) (eI B bf):=by
 cases d with
 |none=>rfl
 |some d=>exact xw
theorem kV{sl:List Nat}{bf:dB B.S}:eI B (lD sl bf)=gm sl (eI B bf):=by
 induction sl with
 |nil=>rfl
 |cons t r ih=>
  rw[GH,lR];simp only[lD];cases bn bf t with
  |none=>exact ih
  |some x=>simp only[eI,iJ,ih]
theorem yU{g:Option (Nat×Bool)}{bf:dB B.S}{A C:Prop}(h:match Gc B g bf with
  |.go=>A
  |.skip=>C
  |_=>False):DQ g (eI B bf) A C:=by
 unfold Gc at h;unfold DQ;cases g with
 |none=>exact h
 |some q=>
  obtain⟨d,want⟩:=q;simp only at h |-
  rw[lR];cases hv:bn bf d with
  |none=>grind
  |some v=>
   rw[hv]at h;simp only[iJ]at h |-
   cases hb:LQ B v with
   |none=>
    rw[hb]at h;simp only at h;cases hn:ul v with
    |false=>grind
    |true=>
     rw[hn]at h;have:v.er B.E=.dS []:=by
      unfold ul at hn;split at hn<;>first|rfl|cases hn
     grind
   |some p=>
    obtain⟨st,b⟩:=p;rw[hb]at h;simp only at h;cases st with
    |false=>exact h.elim
    |true=>
     rw[sQ hb]
     grind
theorem rG{g:Option (Nat×Bool)}{bf:dB B.S}{A C:Env->Prop}(h:match Gc B g bf with
  |.go=>A (eI B bf)
  |.skip=>C (eI B bf)
  |_=>False):Dw g (eI B bf) A C:=by
 unfold Gc at h;unfold Dw;cases g with
 |none=>exact h
 |some q=>
  obtain⟨d,want⟩:=q;simp only at h |-
  have hg:=lR (B:=B) (bf:=bf) (t:=d);rw[hg];cases hv:bn bf d with
  |none=>grind
  |some v=>
   rw[hv]at h hg;simp only[iJ]at h hg |-
   cases hb:LQ B v with
   |none=>
    rw[hb]at h;simp only at h;cases hn:ul v with
    |false=>grind
    |true=>
     rw[hn]at h;have:v.er B.E=.dS []:=by
      unfold ul at hn;split at hn<;>first|rfl|cases hn
     grind
   |some p=>
    obtain⟨st,b⟩:=p;rw[hb]at h;simp only at h;cases st with
    |false=>exact h.elim
    |true=>
     rw[sQ hb]at hg |-
     have key: ∀c,b=c->dM (eI B bf) d (.bool c)=eI B bf:=λc e=>by grind [ry]
     grind
theorem yV{op:Op}(h:eY op=true):fW op=none:=by
 cases op<;>simp only[eY]at h<;>first|rfl|(cases h;done)|skip
 rename_i c;obtain⟨callee,a,t⟩:=c;cases callee<;>first|rfl|(simp at h)
theorem Xt{G:bS}{c:TV B.S}{v:Value}(h:V G (c.er B.E) v):V G ((lx0 c).er B.E) v:=by
 cases c<;>first|exact Hi h|exact h
theorem Up{c:TV B.S}(h:(c.er B.E).cJ=true):((lx0 c).er B.E).cJ=true:=by
 cases c<;>first|exact h|rfl|skip
 rename_i x;cases x<;>first|exact h|rfl
theorem Xu{G:bS}{x:TV B.S}{v:Value}(h:V G (x.er B.E) v):V G ((lxV x).er B.E) v:=by
 unfold lxV;split
 ·rename_i b cs;simp only[TV.er,dY,eD]at h |-
  cases h with
  |sl _ _ bk off cq cap val jC jX eo kI gE hV=>
   refine .sl b _ bk off cq cap val jC jX (λe he=>?_) (λx hx=>?_) gE λk x hk=>?_
   ·simp only[Tb]at he;subst he;have:=eo _ (Tb.2 rfl);simpa[AV.cells]using this
   ·simp only[de,F1,PY,wV,AV.cells,L1,mS,Function.comp]at hx;obtain⟨c,hc,rfl⟩:=hx;exact Up (kI _ (by simp only[de,F1,PY,wV,AV.cells];exact mS.2 ⟨c,hc,rfl⟩))
   ·simp only[de,F1,PY,wV,AV.cells,L1,xR,L2,Function.comp]at hk;obtain⟨c,hc,rfl⟩:=hk;exact Xt (hV k _ (by simp only[de,F1,PY,wV,AV.cells,xR,hc,iJ]))
 ·exact h
theorem CK{G:bS}{bf:dB B.S}{a:Array Value}(h:iL G (eI B bf) a):iL G (eI B (V6 bf)) a:=by
 have key: ∀(bf:dB B.S)t x,bn (eI B (V6 bf)) t=some x-> ∃y,bn (eI B bf) t=some y/\ ∀v,V G y v->V G x v:=by
  intro bf
  induction bf with
  |nil=>intro t x hx;cases hx
  |cons p r ih=>
   obtain⟨k,v⟩:=p;intro t x hx;simp only[V6,eI,bn]at hx |-
   cases hb:Nat.beq k t with
   |true=>
    rw[hb]at hx;cases hx;exact⟨_,rfl,λw hw=>Xu hw⟩
   |false=>
    rw[hb]at hx;exact ih t x hx
 intro t x hx;obtain⟨y,h1,h2⟩:=key bf t x hx;exact⟨(h t y h1).1,h2 _ (h t y h1).2⟩
theorem um: ∀{r:TR B.S}{K:TV B.S->dH B.S->Prop},(TR.fz B r).wp K->r.wp λv s'=> ∃v2 s2,pe (db B s') (v.er B.E) (db B s2) (v2.er B.E)/\K v2 s2
 |.no,_,h=>h
 |.eq x y k,_,h=>⟨h.1,um h.2⟩
 |.el c l i k,_,h=>by obtain⟨y,h1,h2⟩:=h;exact⟨y,h1,um h2⟩
 |.ix c l i k,_,h=>by obtain⟨y,h1,h2⟩:=h;exact⟨y,h1,um h2⟩
 |.bZ p k,_,h=>⟨h.1,um h.2⟩
 |.sp b k,_,h=>um (r:=k b) h
 |.ok v s,K,h=>by
  have same:K v s-> ∃v2 s2,pe (db B s) (v.er B.E) (db B s2) (v2.er B.E)/\K v2 s2:=λh=>⟨v,s,.refl _ _,h⟩;show∃v2 s2,_;simp only[TR.fz]at h;split at h
  ·rename_i id st n;split at h
   ·rename_i cq c xs m hm hg;cases hb:(Nat.beq st 0&&ia s.heap id)with
    |false=>rw[hb]at h;cases h
    |true=>
     rw[hb]at h;obtain⟨h1,h2⟩:=h;simp only[eU]at hb;have h0:=jU hb.1;cases h1;subst h0;refine⟨_,_,?_,h2⟩;have hq:=vy (db B s) (.ms id 0 xs.length);have mL:=dl (B:=B) hg;simp only[fT]at mL;unfold tX at hq;simp only[mL,vn,J0,fw,Ak,List.drop_zero]at hq;rw[sq (by simp)]at hq;rw[lS hb.2];exact hq
   ·cases h
  ·exact same h
theorem Uq{op:Op}{own:Bool}{bf:dB B.S}{s:dH B.S}{K:TV B.S->dH B.S->Prop}{K':AV->St->Prop}(hc:fW op=none)(hk: ∀v s',K v s'->K' (v.er B.E) (db B s'))(h:(top B P own op bf s).wp K):MX P op K' (eI B bf) (db B s):=by
 have bG:(top B P false op bf s).wp K->MX P op K' (eI B bf) (db B s):=λh=>by
  obtain⟨v,s',e,hK⟩:=nr (B:=B) (P:=P) hc K h;refine .inl ?_;unfold ows
  grind
 cases own with
 |false=>exact bG h
 |true=>
  have same:(∃t len bW,op=.buildSlice t len bW)\/top B P true op bf s=top B P false op bf s:=by
   cases op<;>first|exact .inr rfl|exact .inl ⟨_,_,_,rfl⟩|skip
   rename_i fn _ _;cases fn<;>exact .inr rfl
  rcases same with⟨t,len,bW,rfl⟩|e
  case inr=>grind
  refine .inr (.inl ?_);simp only[top]at h;split at h
  ·rename_i l hl;have:=qF (B:=B) (P:=P) (s:=s) (t:=t) (len:=len) (own:=true) (bW:=l) K h;obtain⟨v,s',e,hK⟩:=this;refine⟨v.er B.E,db B s',?_,hk v s' hK⟩;simp only[cP]at e;simp only[Cq,rE,hl,iJ];rw[<-e];simp only[vn,db];rfl
  ·exact h.elim
theorem NI{n:List (oG B.S)}{j:Nat}:wA (vH B n) j=(Bp n j).map λt=>(t.op,eI B t.e,t.v.er B.E):=by
 induction n with
 |nil=>rfl
 |cons t r ih=>
  simp only[vH,Aj,wA,Bp];by_cases h:t.i=j
  ·simp_all
  ·rw[fN h];have:Nat.beq t.i j=false:=by
    grind [Nat.eq_of_beq_eq_true]
   rw[this];exact ih
theorem KP{S:Nat->Type}{n:List (oG S)}{j:Nat}{t:oG S}(h:Bp n j=some t):t∈n:=by
 induction n with
 |nil=>cases h
 |cons a r ih=>
  simp only[Bp]at h
  grind
theorem NJ{t:oG B.S}{s:dH B.S}{q:List (AV×AV)}(h:NE B P t s=some q)(hq: ∀p∈q,p.1=p.2)(hl:eY t.op=true):gH P t.op (eI B t.e) (db B s)=some (t.v.er B.E,db B s):=by
 unfold NE at h;split at h
 ·rename_i v s2 ht;cases h;obtain⟨v',s',e,e1,e2⟩:=nr (B:=B) (P:=P) (s:=s) (op:=t.op) (bf:=t.e) (yV hl) (λa b=>a=v/\b=s2) (by rw[ht];exact⟨rfl,rfl⟩);subst e1;subst e2;have hv:v'.er B.E=t.v.er B.E:=hq (v'.er B.E,t.v.er B.E) (by simp)
  grind [ng]
 ·cases h
theorem nH{same:Bool}{n:List (oG B.S)}{s s0:dH B.S}(hl:Sr B P s0 n)(hs:same=true->Sr B P s n): ∀{c:List Nat}{q:List (AV×AV)},Eu B P same n s c=some q->(∀p∈q,p.1=p.2)->rZ P (vH B n) (db B s) c
 | [],_,_,_=>trivial
 |j::r,q,h,hq=>by
  unfold Eu at h;unfold rZ;rw[NI];split at h
  ·rename_i hf;rw[hf];exact⟨trivial,nH hl hs h hq⟩
  ·rename_i t hf;rw[hf];simp only[iJ];have ht:=KP hf;cases hb:(same||Xs t.op (eI B t.e))&&t.ok with
   |true=>
    simp only[hb,cP]at h;simp only[eU,vm]at hb;refine⟨?_,nH hl hs h hq⟩;cases hb.1 with
    |inl h1=>exact(hs h1 t ht).2 hb.2
    |inr h1=>exact NF h1 ((hl t ht).2 hb.2)
   |false=>
    simp only[hb,dv]at h;split at h
    ·rename_i q1 h1;split at h
     ·rename_i q2 h2;cases h;exact⟨NJ h1 (λp hp=>hq p (Ig _ hp)) (hl t ht).1,nH hl hs h2 λp hp=>hq p (Gh _ hp)⟩
     ·cases h
    ·cases h
theorem rH{n:List (oG B.S)}:vH B (wD B n)=vH B n:=by simp[vH,wD]
theorem rI{n:List (oG B.S)}{s s':dH B.S}(h:Sr B P s n):Sr B P s' (wD B n):=by
 intro t ht;obtain⟨u,hu,rfl⟩:=mS.1 ht;refine⟨(h u hu).1,λe=>?_⟩;simp only[eU]at e;exact NF e.2 ((h u hu).2 e.1)
theorem Bq{y:Option Code}{k:List Fr}{bf:dB B.S}{s:dH B.S}(h:kU B P N ρ Q ⟨CJ y,k,bf,s⟩):YK P N ρ Q k y (eI B bf) (db B s):=by
 cases y with
 |none=>exact h
 |some c=>exact h
theorem NK{c:Code}{k:List Fr}{bf:Env}{s:St}(h:gY P N ρ c (λe bf s=>e=.normal/\vE P N ρ Q ⟨.out .normal,k,bf,s⟩) bf s):gY P N ρ c (QK P N ρ Q k) bf s:=by
 intro G w a hn;refine wpIn_mono (h G w a hn) ?_;rintro e2 a2 w2 ⟨G',env',s2,n',x',rfl,hk⟩;obtain⟨G3,Qj,s3,n3,x3,q3⟩:=hk G' w2 a2 n';exact⟨G3,Qj,s3,n3,x'.trans hn.iB x3,q3⟩
theorem wE{ops:Array Oper}{d:Bool}{id:Nat}{y:Option Code}{o:TO B.S}{k:List Fr}{bf:dB B.S}{s:dH B.S}(h:qG B P N ops d y=some o)(hk:kU B P N ρ Q ⟨o,k,bf,s⟩):
  gY P N ρ (match y with|some y=>.seq (.region id ops d) y|none=>.region id ops d) (QK P N ρ Q k) (eI B bf) (db B s):=by
 have fin: ∀Q':Exit->Env->St->Prop,(Q'=λe bf s=>e=.normal/\YK P N ρ Q k y bf s)->gY P N ρ (.region id ops d) Q' (eI B bf) (db B s):=by
  intro Q' hQ;cases d with
  |false=>
   simp only[qG]at h;cases hg:(jY ops.toList&&mw N ops.toList)with
   |false=>grind
   |true=>
    simp only[hg,cP]at h;cases h;simp only[eU]at hg;refine MY (K:=YK P N ρ Q k y) ops.toList rfl hg.1 hg.2 ?_;have e:(λbf s=>Q' .normal bf s)=YK P N ρ Q k y:=by grind
    rw[e];exact hk
  |true=>
   simp only[qG]at h;generalize hp:IJ ops.toList=pl at h;obtain⟨pre,st⟩:=pl;simp only at h;cases hg:(D6 P N ops.toList pre st&&(ID (ins ops.toList) st).all sN&&P.follows .mixedOrders)with
   |false=>grind
   |true=>
    simp only[hg,cP]at h;cases h;simp only[eU]at hg;have ye:dq P (YK P N ρ Q k y) (ID (ins ops.toList) st) [] (eI B bf) (db B s):=hk (λt ht=>by cases ht);have e:(λbf s=>Q' .normal bf s)=YK P N ρ Q k y:=by grind
    refine DX pre st ops.toList rfl hg.2 (D7 hg.1.1) (pj (nR (tr:=[]) ?_));rw[GG]at ye;rw[e];exact ye
 cases y with
 |none=>exact NK (fin _ rfl)
 |some y=>
  refine ri ?_;intro G w a hn;refine wpIn_mono (fin _ rfl G w a hn) ?_;rintro e2 a2 w2 ⟨G',env',s2,n',x',rfl,hk⟩;exact⟨G',env',s2,n',x',hk⟩
theorem Hj{c:Code}{k:List Fr}{bf:dB B.S}{s:dH B.S}{M':TM B.S}{q:List (AV×AV)}(h:CH B P N c k bf s=some (M',q))(hk:kU B P N ρ Q M'):gY P N ρ c (QK P N ρ Q k) (eI B bf) (db B s):=by
 unfold CH at h;split at h
 ·rename_i x y;split at h
  ·rename_i id ops d;split at h
   ·rename_i o ho;cases h;exact wE (id:=id) (y:=some y) ho hk
   ·cases h
  ·cases h;exact ri hk
 ·rename_i id ops d;split at h
  ·rename_i o ho;cases h;exact wE (id:=id) (y:=none) ho hk
  ·cases h
 ·cases h;exact J7 hk
 ·cases h;exactλG w a hn=>wpIn_skip (hk G w a hn)
 ·cases h;exactλG w a hn=>wpIn_exit (hk G w a hn)
 ·cases h;have hk:gY P N ρ _ (Zi (QK P N ρ Q k)) (eI B bf) (db B s):=hk;exact(KG hk λ_ _ _ h=>h).mono λ_ _ _ h=>h.to
 ·cases h;exactλG w a hn=>wpIn_label (hk G w a hn)
 ·cases h;exactλG w a hn=>wpIn_ret (hk G w a hn)
 ·rename_i t x y;split at h
  ·rename_i v hv;split at h
   ·rename_i st b hb;cases st with
    |false=>cases h
    |true=>
     simp only[cP]at h;cases h;have hc:oper (eI B bf) t=some (.bool b):=by rw[ee,hv,iJ,sQ hb]
     exact xZ hc (λe=>by subst e;exact hk) (λe=>by subst e;exact hk)
   ·cases h
  ·cases h
 ·cases h
theorem Hk{e:Exit}{k:List Fr}{bf:dB B.S}{s:dH B.S}{M':TM B.S}{q:List (AV×AV)}(h:CI B e k bf s=some (M',q))(hk:kU B P N ρ Q M'):vE P N ρ Q ⟨.out e,k,eI B bf,db B s⟩:=by
 unfold CI at h;split at h
 ·cases h
 ·rename_i fr k;split at h
  ·rename_i y;split at h
   ·cases h;exactλG w a hn=>hn.after hk
   ·rename_i fG;cases h;intro G w a hn;refine im.of (hk G w a hn) λbf s hq=>?_;cases e with
    |normal=>grind
    |exit _=>exact hq
    |goto _=>exact hq
    |ret=>exact hq
    |panic _=>exact hq
    |outgrown=>exact hq
  ·rename_i id;split at h
   ·rename_i j;cases hb:Nat.beq j id with
    |true=>
     rw[hb]at h;cases h;intro G w a hn;refine im.of (hk G w a hn) λbf s hq=>?_;show oW id (QK P N ρ Q k) (.exit j) bf s;simp only[oW];simp_all
    |false=>
     rw[hb]at h;cases h;intro G w a hn;refine im.of (hk G w a hn) λbf s hq=>?_;show oW id (QK P N ρ Q k) (.exit j) bf s;simp only[oW];rw[fN (λe=>by simp_all)];exact hq
   ·rename_i fG;cases h;intro G w a hn;refine im.of (hk G w a hn) λbf s hq=>?_;cases e with
    |exit j=>grind
    |normal=>exact hq
    |goto _=>exact hq
    |ret=>exact hq
    |panic _=>exact hq
    |outgrown=>exact hq
  ·cases h
  ·split at h
   ·cases h
   ·rename_i fG;cases h;intro G w a hn;refine im.of (hk G w a hn) λbf s hq=>?_;cases e with
    |goto l=>grind
    |normal=>exact hq
    |exit _=>exact hq
    |ret=>exact hq
    |panic _=>exact hq
    |outgrown=>exact hq
theorem NL{l:List Ins}{y:Option Code}{k:List Fr}{bf:dB B.S}{s:dH B.S}{M':TM B.S}{q:List (AV×AV)}(h:NG B P l y k bf s=some (M',q))(hk:kU B P N ρ Q M'):oC P (YK P N ρ Q k y) l (eI B bf) (db B s):=by
 unfold NG at h;split at h
 ·cases h;exact Bq hk
 ·rename_i i l;show DQ _ _ _ _;refine yU (B:=B) ?_;split at h
  ·rename_i hg;cases hc:(fW i.op).isSome with
   |true=>grind
   |false=>
    rw[hc]at h;have hc:fW i.op=none:=by cases hq:fW i.op<;>simp_all
    cases V7:Zj i.op bf s with
    |true=>
     rw[V7]at h;cases h;cases hz:QT i l with
     |false=>
      rw[hz]at hk;obtain⟨v,s',e,h2⟩:=nr (B:=B) (P:=P) hc _ hk;exact .inr (.inr (.inr ⟨_,_,_,_,_,λ_ _ h=>CK h,hc,e,.refl _ _,h2⟩))
     |true=>
      rw[hz]at hk;obtain⟨v,s',e,v2,s2,h1,h2⟩:=nr (B:=B) (P:=P) hc _ (um hk);exact .inr (.inr (.inr ⟨_,_,_,_,_,λ_ _ h=>CK h,hc,e,h1,h2⟩))
    |false=>
    rw[V7]at h;cases h;cases hz:QT i l with
    |false=>
      rw[hz]at hk;exact Uq hc (K':=λv s'=>oC P (YK P N ρ Q k y) l (eH i.dst v (eI B bf)) s') (λv s' h=>h) hk
    |true=>
      rw[hz]at hk;have ho:(Um i l&&noS bf i.op)=false:=by
       unfold QT at hz;split at hz
       ·rename_i c hq;unfold Um;rw[hq];rfl
       ·cases hz
      rw[ho]at hk;obtain⟨v,s',e,v2,s2,h1,h2⟩:=nr (B:=B) (P:=P) hc _ (um hk);exact .inr (.inr (.inr ⟨_,_,_,_,_,λ_ _ h=>h,hc,e,h1,h2⟩))
  ·rename_i hg;cases h;have:oC P (YK P N ρ Q k y) l (eI B (jh i.dst (.dS []) bf)) (db B s):=hk;rw[iI]at this;exact this
  ·cases h
theorem NM{l:List DI}{n:List (oG B.S)}{y:Option Code}{k:List Fr}{bf:dB B.S}{s:dH B.S}{M':TM B.S}{q:List (AV×AV)}(h:NH B P l n y k bf s=some (M',q))(hk:kU B P N ρ Q M')(hn:Sr B P s n):dq P (YK P N ρ Q k y) l (vH B n) (eI B bf) (db B s):=by
 unfold NH at h;split at h
 ·cases h;exact Bq hk
 ·rename_i st i sl l;have skip:kU B P N ρ Q ⟨.rd l n y,k,jh i.dst (.dS []) bf,s⟩->dq P (YK P N ρ Q k y) l (vH B n) (eH i.dst (.dS []) (eI B bf)) (db B s):=λh=>by
   have:=h hn;simp only[iI]at this;exact this
  split at h
  ·rename_i j b;show Dw _ _ _ _;refine rG (B:=B) ?_;split at h
   ·rename_i hg;cases hl:eY i.op with
    |false=>grind
    |true=>
     rw[hl]at h;cases h;have:=hk hl (nr (yV hl)) hn
     grind [kV]
   all_goals grind
  ·rename_i j c;show Dw _ _ _ _;refine rG (B:=B) ?_;split at h
   ·rename_i hg;cases hc:(fW i.op).isSome with
    |true=>grind
    |false=>
     rw[hc]at h;have hc:fW i.op=none:=by cases hq:fW i.op<;>simp_all
     cases V7:Zj i.op (lD sl bf) s with
     |true=>
      rw[V7]at h;cases h;cases hz:QT i (l.filterMap (·.ins))with
      |false=>
       rw[hz]at hk;obtain⟨v,s',e,h1,h2⟩:=nr (B:=B) (P:=P) hc _ (hk hn);refine .inr ⟨_,_,_,_,_,λ_ _ h=>CK (kV (B:=B) ▸ h),hc,e,.refl _ _,h1,h2⟩
      |true=>
       rw[hz]at hk;obtain⟨v,s',e,v2,s2,h0,h1,h2⟩:=nr (B:=B) (P:=P) hc _ (um (hk hn));refine .inr ⟨_,_,_,_,_,λ_ _ h=>CK (kV (B:=B) ▸ h),hc,e,h0,h1,h2⟩
     |false=>
     rw[V7]at h;cases h;cases hz:QT i (l.filterMap (·.ins))with
     |false=>
       rw[hz]at hk;obtain⟨v,s',e,h1,h2⟩:=nr (B:=B) (P:=P) hc _ (hk hn);rw[kV]at e;refine .inl ?_;show ows _ _ _ _ _;unfold ows;simp only[hc,e];exact⟨h1,h2⟩
     |true=>
       rw[hz]at hk;obtain⟨v,s',e,v2,s2,h0,h1,h2⟩:=nr (B:=B) (P:=P) hc _ (um (hk hn));rw[kV]at e;exact .inr ⟨_,_,_,_,_,λ_ _ h=>h,hc,e,h0,h1,h2⟩
   ·rename_i hg;cases h;exact skip hk
   ·cases h
  ·rename_i j;split at h
   ·rename_i v s' hv;cases hc:(fW i.op).isSome with
    |true=>rw[hc]at h;cases h
    |false=>
     rw[hc]at h;cases h;have hc:fW i.op=none:=by simp_all
     obtain⟨v',s2,e,e1,e2⟩:=nr (B:=B) (P:=P) (s:=s) (bf:=[]) hc (λa b=>a=v/\b=s') (by rw[hv];exact⟨rfl,rfl⟩);subst e1;subst e2;have e:gH P i.op [] (db B s)=_:=e;have:=hk (rI hn);simp only[iI,rH]at this;simp only[dq,e];exact this
   ·cases h
 ·cases h
theorem NN{M M':TM B.S}{q:List (AV×AV)}(h:stepT B P N M=some (M',q))(hq: ∀p∈q,p.1=p.2)(hk:kU B P N ρ Q M'):kU B P N ρ Q M:=by
 obtain⟨o,k,bf,s⟩:=M;unfold stepT at h;split at h
 ·rename_i c ho;simp only at ho;subst ho;exact Hj h hk
 ·rename_i e ho;simp only at ho;subst ho;exact Hk h hk
 ·rename_i l y ho;simp only at ho;subst ho;exact NL h hk
 ·rename_i r d l y ho;simp only at ho;subst ho;split at h
  ·rename_i v s';cases h;have:oC P (YK P N ρ Q k y) l (eI B (jh d v bf)) (db B s'):=hk;rw[iI]at this;exact this
  ·rename_i a b r;cases h;exact⟨hq (a,b) (by simp),hk⟩
  ·cases h
 ·rename_i l n y ho;simp only at ho;subst ho;exactλhn=>NM h hk hn
 ·rename_i r i b op e d l n y ho;simp only at ho;subst ho;intro hl hs hn;split at h
  ·rename_i v s';cases h;obtain⟨v',s2,e0,e1,e2⟩:=hs (λa b=>a=v/\b=s') ⟨rfl,rfl⟩;subst e1;subst e2;have h0:=ng hl e0;simp only[e0];cases b with
   |true=>
    have:=hk (by
     intro t ht;rcases pU.1 ht with rfl|ht
     ·grind
     ·exact hn t ht)
    simp only[iI]at this;exact this
   |false=>
    have:=hk hn
    grind [iI]
  ·rename_i a b' r;cases h;refine hk hl (λK hK=>hs K ⟨hq (a,b') (by simp),hK⟩) hn
  ·cases h
 ·rename_i r c d l n y ho;simp only at ho;subst ho;intro hn;split at h
  ·rename_i v s';split at h
   ·rename_i q' hc;cases h;have:=hk (rI hn);simp only[iI,rH]at this;exact⟨nH hn (λe=>by cases e) hc hq,this⟩
   ·cases h
  ·rename_i a b r;cases h;exact⟨hq (a,b) (by simp),hk hn⟩
  ·cases h
theorem kW{u:TM B.S->Bool}: ∀{f:Nat}{M:TM B.S},(∀p∈(Uo B P N u f M).2,p.1=p.2)->kU B P N ρ Q (Uo B P N u f M).1->kU B P N ρ Q M
 |0,_,_,h=>h
 |f+1,M,hq,h=>by
  unfold Uo at hq h;cases hu:u M with
  |true=>grind
  |false=>
   rw[hu]at hq h;simp only[dv]at hq h;cases hs:stepT B P N M with
   |none=>grind
   |some r=>
    obtain⟨M',q⟩:=r;rw[hs]at hq h;simp only at hq h;exact NN hs (λp hp=>hq p (Ig _ hp)) (kW (λp hp=>hq p (Gh _ hp)) h)
end
end Go.Am
