/-
  The logic AM, V: a machine on typed states, that stops where something is to be known; it is sound.
  Own work. No Go text.
-/
import Derived.Test.YtpbahncblggodaaGreatAmU
set_option linter.all false
namespace Go.Am
open Go.RowKit
structure Note (S:Nat->Type) where
 i:Nat
 op:Op
 e:TEnv S
 v:TV S
 ok:Bool
inductive TO (S:Nat->Type) where
 |run (c:Code)
 |out (e:Exit)
 |ro (l:List Ins) (y:Option Code)
 |po (r:TR S) (d:Option Nat) (l:List Ins) (y:Option Code)
 |rd (l:List DI) (n:List (Note S)) (y:Option Code)
 |pl (r:TR S) (i:Nat) (b:Bool) (op:Op) (e:TEnv S) (d:Option Nat) (l:List DI) (n:List (Note S)) (y:Option Code)
 |ph (r:TR S) (c:List Nat) (d:Option Nat) (l:List DI) (n:List (Note S)) (y:Option Code)
structure TM (S:Nat->Type) where
 o:TO S
 k:List Fr
 env:TEnv S
 s:TSt S
def eputT{S:Nat->Type}(d:Option Nat)(v:TV S)(env:TEnv S):TEnv S:=match d with
 |some d=>eset env d v
 |none=>env
def envOfT{S:Nat->Type}:List Nat->TEnv S->TEnv S
 | [],_=>[]
 |t::r,env=>match eget env t with
  |some x=>(t,x)::envOfT r env
  |none=>envOfT r env
inductive GD where
 |go
 |skip
 |ask (d:Nat) (b:Bool)
 |no
def isNone0{S:Nat->Type}:TV S->Bool
 |.tup []=>true
 |.a (.tup [])=>true
 |_=>false
section
variable (B:Tab)
def gdT(g:Option (Nat×Bool))(env:TEnv B.S):GD:=match g with
 |none=>.go
 |some (d,want)=>match eget env d with
  |some v=>match asB B v with
   |some (st,b)=>bif st then(bif (b==want)then .go else .skip)else .ask d b
   |none=>bif isNone0 v then .skip else .no
  |none=>.no
def isMv:Op->Bool
 |.assign _=>true
 |.move _=>true
 |.store _ _ _=>true
 |_=>false
def usesB(d:Nat)(i:Ins):Bool:=(slotsOp i.op).any λx=>Nat.beq x d
def ownB(i:Ins)(l:List Ins):Bool:=match i.op with
 |.buildSlice _ len _=>match i.dst,i.guard with
  |some d,none=>!(Nat.beq len 0)&&l.any (usesB d)&&l.all (λj=>!(usesB d j)||isMv j.op)
  |_,_=>false
 |_=>false
def notS{S:Nat->Type}:TV S->Bool
 |.s _ _=>false
 |_=>true
def noS{S:Nat->Type}(env:TEnv S)(op:Op):Bool:=match op with
 |.buildSlice _ _ parts=>(match tParts env parts.toList with
  |some l=>l.all λp=>notS p.2
  |none=>true)
 |_=>true
def findN{S:Nat->Type}:List (Note S)->Nat->Option (Note S)
 | [],_=>none
 |t::r,i=>bif Nat.beq t.i i then some t else findN r i
def reRun(P:Program)(t:Note B.S)(s:TSt B.S):Option (List (AV×AV)):=match top B P false t.op t.e s with
 |.ok v _=>some [(v.er B.E,t.v.er B.E)]
 |_=>none
def frE(op:Op)(env:Env):Bool:=match op with
 |.indexAddr _ x _=>(match oper env x with
  |some (.sl _ _)=>true
  |some (.ip _)=>true
  |_=>false)
 |.load _ x=>(match oper env x with
  |some (.ip _)=>true
  |_=>false)
 |op=>stateless op
theorem frE_ok{P:Program}{op:Op}{env:Env}{s s2:St}{x:AV}(hf:frE op env=true)(h:aop P op env s=some (x,s)):aop P op env s2=some (x,s2):=by
 unfold frE at hf
 split at hf
 ·rename_i t y i
  simp only[aop]at h ⊢
  split at hf
  ·rename_i b l hy
   simp only[hy]at h ⊢
   cases hi:oper env i with
   |none=>rw[hi]at h;cases h
   |some n=>
    simp only[hi]at h ⊢
    have e:aIndexAddr P t (.sl b l) n s=aIndexAddr P t (.sl b l) n s2:=by cases n<;>rfl
    rw[e]at h
    obtain⟨h,_⟩:=keep_some h
    simp[ekeep,h]
  ·rename_i l hy
   simp only[hy]at h ⊢
   cases hi:oper env i with
   |none=>rw[hi]at h;cases h
   |some n=>
    simp only[hi]at h ⊢
    have e:aIndexAddr P t (.ip l) n s=aIndexAddr P t (.ip l) n s2:=by cases n<;>rfl
    rw[e]at h
    obtain⟨h,_⟩:=keep_some h
    simp[ekeep,h]
  ·cases hf
 ·rename_i t y
  simp only[aop]at h ⊢
  split at hf
  ·rename_i l hy
   simp only[hy]at h ⊢
   have e:aLoad P t (.ip l) s=aLoad P t (.ip l) s2:=rfl
   rw[e]at h
   obtain⟨h,_⟩:=keep_some h
   simp[ekeep,h]
  ·cases hf
 ·exact stateless_same hf h
def chkT(P:Program)(same:Bool)(n:List (Note B.S))(s:TSt B.S):List Nat->Option (List (AV×AV))
 | []=>some []
 |j::r=>match findN n j with
  |none=>chkT P same n s r
  |some t=>bif (same||frE t.op (erE B t.e))&&t.ok then chkT P same n s r else match reRun B P t s with
   |some q=>match chkT P same n s r with
    |some q2=>some (q++q2)
    |none=>none
   |none=>none
def stale(n:List (Note B.S)):List (Note B.S):=n.map λt=>⟨t.i,t.op,t.e,t.v,t.ok&&frE t.op (erE B t.e)⟩
def erN(n:List (Note B.S)):List (Nat×Op×Env×AV):=n.map λt=>(t.i,t.op,erE B t.e,t.v.er B.E)
def enterReg(P:Program)(N:Nat)(ops:Array Oper)(d:Bool)(y:Option Code):Option (TO B.S):=match d with
 |false=>bif guardsOk ops.toList&&dstsOk N ops.toList then some (.ro (ins ops.toList) y)else none
 |true=>match wPlanOf ops.toList with
  |(pre,st)=>bif planB P N ops.toList pre st&&(mkD (ins ops.toList) st).all lightD&&P.follows .mixedOrders then some (.rd (mkD (ins ops.toList) st) [] y)else none
abbrev SR(S:Nat->Type):=Option (TM S×List (AV×AV))
def stepRun(P:Program)(N:Nat)(c:Code)(k:List Fr)(env:TEnv B.S)(s:TSt B.S):SR B.S:=match c with
 |.seq x y=>match x with
  |.region _ ops d=>match enterReg B P N ops d (some y)with
   |some o=>some (⟨o,k,env,s⟩,[])
   |none=>none
  |x=>some (⟨.run x,.seq y::k,env,s⟩,[])
 |.region _ ops d=>match enterReg B P N ops d none with
  |some o=>some (⟨o,k,env,s⟩,[])
  |none=>none
 |.block id x=>some (⟨.run x,.blk id::k,env,s⟩,[])
 |.skip=>some (⟨.out .normal,k,env,s⟩,[])
 |.exit id=>some (⟨.out (.exit id),k,env,s⟩,[])
 |.scope x=>some (⟨.run x,.sc::k,env,s⟩,[])
 |.label _=>some (⟨.out .normal,k,env,s⟩,[])
 |.ret=>some (⟨.out .ret,k,env,s⟩,[])
 |.cond t x y=>match toper env t with
  |some v=>match asB B v with
   |some (st,b)=>bif st then some (⟨.run (bif b then x else y),k,env,s⟩,[])else none
   |none=>none
  |none=>none
 |_=>none
def stepOut(e:Exit)(k:List Fr)(env:TEnv B.S)(s:TSt B.S):SR B.S:=match k with
 | []=>none
 |fr::k=>match fr with
  |.seq y=>match e with
   |.normal=>some (⟨.run y,k,env,s⟩,[])
   |e=>some (⟨.out e,k,env,s⟩,[])
  |.blk id=>match e with
   |.exit j=>bif Nat.beq j id then some (⟨.out .normal,k,env,s⟩,[])else some (⟨.out (.exit j),k,env,s⟩,[])
   |e=>some (⟨.out e,k,env,s⟩,[])
  |.lp _ _=>none
  |.sc=>match e with
   |.goto _=>none
   |e=>some (⟨.out e,k,env,s⟩,[])
def endReg{S:Nat->Type}(y:Option Code):TO S:=match y with
 |some c=>.run c
 |none=>.out .normal
def stepO(P:Program)(l:List Ins)(y:Option Code)(k:List Fr)(env:TEnv B.S)(s:TSt B.S):SR B.S:=match l with
 | []=>some (⟨endReg y,k,env,s⟩,[])
 |i::l=>match gdT B i.guard env with
  |.go=>bif (callOf i.op).isSome then none else some (⟨.po (top B P (ownB i l&&noS env i.op) i.op env s) i.dst l y,k,env,s⟩,[])
  |.skip=>some (⟨.ro l y,k,eputT i.dst (.tup []) env,s⟩,[])
  |_=>none
def stepD(P:Program)(l:List DI)(n:List (Note B.S))(y:Option Code)(k:List Fr)(env:TEnv B.S)(s:TSt B.S):SR B.S:=match l with
 | []=>some (⟨endReg y,k,env,s⟩,[])
 |⟨st,some i,sl⟩::l=>match st with
  |.light j b=>match gdT B i.guard env with
   |.go=>bif isLight i.op then some (⟨.pl (top B P false i.op (envOfT sl env) s) j b i.op (envOfT sl env) i.dst l n y,k,env,s⟩,[])else none
   |.skip=>some (⟨.rd l n y,k,eputT i.dst (.tup []) env,s⟩,[])
   |_=>none
  |.heavy _ c=>match gdT B i.guard env with
   |.go=>bif (callOf i.op).isSome then none else some (⟨.ph (top B P false i.op (envOfT sl env) s) c i.dst l n y,k,env,s⟩,[])
   |.skip=>some (⟨.rd l n y,k,eputT i.dst (.tup []) env,s⟩,[])
   |_=>none
  |.alloc _=>match top B P false i.op [] s with
   |.ok v s'=>bif (callOf i.op).isSome then none else some (⟨.rd l (stale B n) y,k,eputT i.dst v env,s'⟩,[])
   |_=>none
 |⟨_,none,_⟩::_=>none
def stepT(P:Program)(N:Nat)(M:TM B.S):SR B.S:=match M.o with
 |.run c=>stepRun B P N c M.k M.env M.s
 |.out e=>stepOut B e M.k M.env M.s
 |.ro l y=>stepO B P l y M.k M.env M.s
 |.po r d l y=>match r with
  |.ok v s'=>some (⟨.ro l y,M.k,eputT d v M.env,s'⟩,[])
  |.eq a b r=>some (⟨.po r d l y,M.k,M.env,M.s⟩,[(a,b)])
  |_=>none
 |.rd l n y=>stepD B P l n y M.k M.env M.s
 |.pl r i b op e d l n y=>match r with
  |.ok v _=>some (⟨.rd l (bif b then⟨i,op,e,v,true⟩::n else n) y,M.k,eputT d v M.env,M.s⟩,[])
  |.eq a b' r=>some (⟨.pl r i b op e d l n y,M.k,M.env,M.s⟩,[(a,b')])
  |_=>none
 |.ph r c d l n y=>match r with
  |.ok v s'=>match chkT B P false n s' c with
   |some q=>some (⟨.rd l (stale B n) y,M.k,eputT d v M.env,s'⟩,q)
   |none=>none
  |.eq a b r=>some (⟨.ph r c d l n y,M.k,M.env,M.s⟩,[(a,b)])
  |_=>none
def isOut{S:Nat->Type}:TO S->Bool
 |.run _=>true
 |.out _=>true
 |_=>false
def isRunT{S:Nat->Type}:TO S->Bool
 |.run _=>true
 |_=>false
def isNorm{S:Nat->Type}:TO S->Bool
 |.out .normal=>true
 |_=>false
def lenLe{α:Type}:List α->Nat->Bool
 | [],_=>true
 |_::_,0=>false
 |_::r,n+1=>lenLe r n
def noU{S:Nat->Type}(_:TM S):Bool:=false
def meetU{S:Nat->Type}(run:Bool)(n:Nat)(M:TM S):Bool:=lenLe M.k n&&(bif run then isRunT M.o else isNorm M.o)
def regU{S:Nat->Type}(id:Nat)(M:TM S):Bool:=match M.o with
 |.run c=>(match c with
  |.seq (.region i _ _) _=>Nat.beq i id
  |.region i _ _=>Nat.beq i id
  |_=>false)
 |_=>false
def goT(P:Program)(N:Nat)(u:TM B.S->Bool):Nat->TM B.S->TM B.S×List (AV×AV)
 |0,M=>(M,[])
 |f+1,M=>bif u M then(M,[])else match stepT B P N M with
  |some (M',q)=>(match goT P N u f M' with
   |(M2,q2)=>(M2,q++q2))
  |none=>(M,[])
end
section
variable {B:Tab} {P:Program} {N:Nat} {ρ:Option Nat} {Q:Exit->Env->St->Prop}
def okN(B:Tab)(P:Program)(s:TSt B.S)(n:List (Note B.S)):Prop:= ∀t∈n,isLight t.op=true/\(t.ok=true->aop P t.op (erE B t.e) (erS B s)=some (t.v.er B.E,erS B s))
def YK(P:Program)(N:Nat)(ρ:Option Nat)(Q:Exit->Env->St->Prop)(k:List Fr):Option Code->Env->St->Prop
 |some y=>AWp P N ρ y (QK P N ρ Q k)
 |none=>λenv s=>RW0 P N ρ Q ⟨.out .normal,k,env,s⟩
def RT0(B:Tab)(P:Program)(N:Nat)(ρ:Option Nat)(Q:Exit->Env->St->Prop)(M:TM B.S):Prop:=match M.o with
 |.run c=>RW0 P N ρ Q ⟨.run c,M.k,erE B M.env,erS B M.s⟩
 |.out e=>RW0 P N ρ Q ⟨.out e,M.k,erE B M.env,erS B M.s⟩
 |.ro l y=>rwsO P (YK P N ρ Q M.k y) l (erE B M.env) (erS B M.s)
 |.po r d l y=>r.wp λv s'=>rwsO P (YK P N ρ Q M.k y) l (eput d (v.er B.E) (erE B M.env)) (erS B s')
 |.rd l n y=>okN B P M.s n->dq P (YK P N ρ Q M.k y) l (erN B n) (erE B M.env) (erS B M.s)
 |.pl r i b op e d l n y=>isLight op=true->IsS B r (aop P op (erE B e) (erS B M.s))->okN B P M.s n->match aop P op (erE B e) (erS B M.s)with
  |some (v,_)=>dq P (YK P N ρ Q M.k y) l (if b then(i,op,erE B e,v)::erN B n else erN B n) (eput d v (erE B M.env)) (erS B M.s)
  |none=>False
 |.ph r c d l n y=>okN B P M.s n->r.wp λv s'=>chkD P (erN B n) (erS B s') c/\dq P (YK P N ρ Q M.k y) l (erN B n) (eput d (v.er B.E) (erE B M.env)) (erS B s')
structure RT (B:Tab) (P:Program) (N:Nat) (ρ:Option Nat) (Q:Exit->Env->St->Prop) (M:TM B.S):Prop where
 v:RT0 B P N ρ Q M
theorem eput_er{d:Option Nat}{v:TV B.S}{env:TEnv B.S}:erE B (eputT d v env)=eput d (v.er B.E) (erE B env):=by
 cases d with
 |none=>rfl
 |some d=>exact set_erE
theorem envOf_er{sl:List Nat}{env:TEnv B.S}:erE B (envOfT sl env)=envOf sl (erE B env):=by
 induction sl with
 |nil=>rfl
 |cons t r ih=>
  rw[envOf_cons,get_erE]
  simp only[envOfT]
  cases eget env t with
  |none=>exact ih
  |some x=>simp only[erE,Option.map_some,ih]
theorem gdT_ok{g:Option (Nat×Bool)}{env:TEnv B.S}{A C:Prop}(h:match gdT B g env with
  |.go=>A
  |.skip=>C
  |_=>False):gws g (erE B env) A C:=by
 unfold gdT at h
 unfold gws
 cases g with
 |none=>exact h
 |some q=>
  obtain⟨d,want⟩:=q
  simp only at h ⊢
  rw[get_erE]
  cases hv:eget env d with
  |none=>rw[hv]at h;exact h.elim
  |some v=>
   rw[hv]at h
   simp only[Option.map_some]at h ⊢
   cases hb:asB B v with
   |none=>
    rw[hb]at h
    simp only at h
    cases hn:isNone0 v with
    |false=>rw[hn]at h;exact h.elim
    |true=>
     rw[hn]at h
     have:v.er B.E=.tup []:=by
      unfold isNone0 at hn
      split at hn<;>first|rfl|cases hn
     rw[this];exact h
   |some p=>
    obtain⟨st,b⟩:=p
    rw[hb]at h
    simp only at h
    cases st with
    |false=>exact h.elim
    |true=>
     rw[asB_ok hb]
     simp only[cond_true]at h ⊢
     cases b<;>cases want<;>simp_all
theorem gdT_okq{g:Option (Nat×Bool)}{env:TEnv B.S}{A C:Env->Prop}(h:match gdT B g env with
  |.go=>A (erE B env)
  |.skip=>C (erE B env)
  |_=>False):gwq g (erE B env) A C:=by
 unfold gdT at h
 unfold gwq
 cases g with
 |none=>exact h
 |some q=>
  obtain⟨d,want⟩:=q
  simp only at h ⊢
  have hg:=get_erE (B:=B) (env:=env) (t:=d)
  rw[hg]
  cases hv:eget env d with
  |none=>rw[hv]at h;exact h.elim
  |some v=>
   rw[hv]at h hg
   simp only[Option.map_some]at h hg ⊢
   cases hb:asB B v with
   |none=>
    rw[hb]at h
    simp only at h
    cases hn:isNone0 v with
    |false=>rw[hn]at h;exact h.elim
    |true=>
     rw[hn]at h
     have:v.er B.E=.tup []:=by
      unfold isNone0 at hn
      split at hn<;>first|rfl|cases hn
     rw[this];exact h
   |some p=>
    obtain⟨st,b⟩:=p
    rw[hb]at h
    simp only at h
    cases st with
    |false=>exact h.elim
    |true=>
     rw[asB_ok hb]at hg ⊢
     have key: ∀c,b=c->eset (erE B env) d (.bool c)=erE B env:=λc e=>by subst e;exact eset_self hg
     simp only[cond_true]at h ⊢
     refine⟨λe=>?_,λe=>?_⟩
     ·rw[key _ e];subst e;simpa using h
     ·rw[key _ e];subst e
      have:((!want)==want)=false:=by cases want<;>rfl
      rw[this]at h;exact h
theorem light_call{op:Op}(h:isLight op=true):callOf op=none:=by
 cases op<;>simp only[isLight]at h<;>first|rfl|(cases h;done)|skip
 rename_i c
 obtain⟨callee,a,t⟩:=c
 cases callee<;>first|rfl|(simp at h)
theorem own_ok{op:Op}{own:Bool}{env:TEnv B.S}{s:TSt B.S}{K:TV B.S->TSt B.S->Prop}{K':AV->St->Prop}(hc:callOf op=none)(hk: ∀v s',K v s'->K' (v.er B.E) (erS B s'))(h:(top B P own op env s).wp K):owsO P op K' (erE B env) (erS B s):=by
 have base:(top B P false op env s).wp K->owsO P op K' (erE B env) (erS B s):=λh=>by
  obtain⟨v,s',e,hK⟩:=top_ok (B:=B) (P:=P) hc K h
  refine .inl ?_
  unfold ows
  simp only[hc,e]
  exact hk v s' hK
 cases own with
 |false=>exact base h
 |true=>
  have same:(∃t len parts,op=.buildSlice t len parts)\/top B P true op env s=top B P false op env s:=by
   cases op<;>first|exact .inr rfl|exact .inl ⟨_,_,_,rfl⟩|skip
   rename_i fn _ _
   cases fn<;>exact .inr rfl
  rcases same with⟨t,len,parts,rfl⟩|e
  case inr=>rw[e]at h;exact base h
  refine .inr (.inl ?_)
  simp only[top]at h
  split at h
  ·rename_i l hl
   have:=tBuildSlice_ok (B:=B) (P:=P) (s:=s) (t:=t) (len:=len) (own:=true) (parts:=l) K h
   obtain⟨v,s',e,hK⟩:=this
   refine⟨v.er B.E,erS B s',?_,hk v s' hK⟩
   simp only[cond_true]at e
   simp only[bOwn,tParts_ok,hl,Option.map_some]
   rw[<-e]
   simp only[List.length_map,erS]
   cases aBuildSlice P t len (List.map (λp=>(p.fst,TV.er B.E p.snd)) l)with
   |none=>rfl
   |some _=>cases elemT P t<;>rfl
  ·exact h.elim
theorem erN_find{n:List (Note B.S)}{j:Nat}:findD (erN B n) j=(findN n j).map λt=>(t.op,erE B t.e,t.v.er B.E):=by
 induction n with
 |nil=>rfl
 |cons t r ih=>
  simp only[erN,List.map_cons,findD,findN]
  by_cases h:t.i=j
  ·rw[if_pos h];subst h;rw[show Nat.beq t.i t.i=true from Nat.beq_refl _];rfl
  ·rw[if_neg h]
   have:Nat.beq t.i j=false:=by
    cases hq:Nat.beq t.i j with
    |false=>rfl
    |true=>exact absurd (Nat.eq_of_beq_eq_true hq) h
   rw[this];exact ih
theorem findN_mem{S:Nat->Type}{n:List (Note S)}{j:Nat}{t:Note S}(h:findN n j=some t):t∈n:=by
 induction n with
 |nil=>cases h
 |cons a r ih=>
  simp only[findN]at h
  cases hq:Nat.beq a.i j with
  |true=>rw[hq]at h;cases h;simp
  |false=>rw[hq]at h;exact List.mem_cons_of_mem _ (ih h)
theorem reRun_ok{t:Note B.S}{s:TSt B.S}{q:List (AV×AV)}(h:reRun B P t s=some q)(hq: ∀p∈q,p.1=p.2)(hl:isLight t.op=true):aop P t.op (erE B t.e) (erS B s)=some (t.v.er B.E,erS B s):=by
 unfold reRun at h
 split at h
 ·rename_i v s2 ht
  cases h
  obtain⟨v',s',e,e1,e2⟩:=top_ok (B:=B) (P:=P) (s:=s) (op:=t.op) (env:=t.e) (light_call hl) (λa b=>a=v/\b=s2) (by rw[ht];exact⟨rfl,rfl⟩)
  subst e1;subst e2
  have hv:v'.er B.E=t.v.er B.E:=hq (v'.er B.E,t.v.er B.E) (by simp)
  rw[e,light_same hl e,hv]
 ·cases h
theorem chkT_ok{same:Bool}{n:List (Note B.S)}{s s0:TSt B.S}(hl:okN B P s0 n)(hs:same=true->okN B P s n): ∀{c:List Nat}{q:List (AV×AV)},chkT B P same n s c=some q->(∀p∈q,p.1=p.2)->chkD P (erN B n) (erS B s) c
 | [],_,_,_=>trivial
 |j::r,q,h,hq=>by
  unfold chkT at h
  unfold chkD
  rw[erN_find]
  split at h
  ·rename_i hf
   rw[hf]
   exact⟨trivial,chkT_ok hl hs h hq⟩
  ·rename_i t hf
   rw[hf]
   simp only[Option.map_some]
   have ht:=findN_mem hf
   cases hb:(same||frE t.op (erE B t.e))&&t.ok with
   |true=>
    simp only[hb,cond_true]at h
    simp only[Bool.and_eq_true,Bool.or_eq_true]at hb
    refine⟨?_,chkT_ok hl hs h hq⟩
    cases hb.1 with
    |inl h1=>exact(hs h1 t ht).2 hb.2
    |inr h1=>exact frE_ok h1 ((hl t ht).2 hb.2)
   |false=>
    simp only[hb,cond_false]at h
    split at h
    ·rename_i q1 h1
     split at h
     ·rename_i q2 h2
      cases h
      exact⟨reRun_ok h1 (λp hp=>hq p (List.mem_append_left _ hp)) (hl t ht).1,chkT_ok hl hs h2 λp hp=>hq p (List.mem_append_right _ hp)⟩
     ·cases h
    ·cases h
theorem erN_stale{n:List (Note B.S)}:erN B (stale B n)=erN B n:=by simp[erN,stale]
theorem okN_stale{n:List (Note B.S)}{s s':TSt B.S}(h:okN B P s n):okN B P s' (stale B n):=by
 intro t ht
 obtain⟨u,hu,rfl⟩:=List.mem_map.1 ht
 refine⟨(h u hu).1,λe=>?_⟩
 simp only[Bool.and_eq_true]at e
 exact frE_ok e.2 ((h u hu).2 e.1)
theorem endReg_ok{y:Option Code}{k:List Fr}{env:TEnv B.S}{s:TSt B.S}(h:RT0 B P N ρ Q ⟨endReg y,k,env,s⟩):YK P N ρ Q k y (erE B env) (erS B s):=by
 cases y with
 |none=>exact h
 |some c=>exact h
theorem awp_outN{c:Code}{k:List Fr}{env:Env}{s:St}(h:AWp P N ρ c (λe env s=>e=.normal/\RW0 P N ρ Q ⟨.out .normal,k,env,s⟩) env s):AWp P N ρ c (QK P N ρ Q k) env s:=by
 intro G w a hn
 refine wpIn_mono (h G w a hn) ?_
 rintro e2 a2 w2 ⟨G',env',s2,n',x',rfl,hk⟩
 obtain⟨G3,env3,s3,n3,x3,q3⟩:=hk G' w2 a2 n'
 exact⟨G3,env3,s3,n3,x'.trans hn.sim x3,q3⟩
theorem enterReg_ok{ops:Array Oper}{d:Bool}{id:Nat}{y:Option Code}{o:TO B.S}{k:List Fr}{env:TEnv B.S}{s:TSt B.S}(h:enterReg B P N ops d y=some o)(hk:RT0 B P N ρ Q ⟨o,k,env,s⟩):
  AWp P N ρ (match y with|some y=>.seq (.region id ops d) y|none=>.region id ops d) (QK P N ρ Q k) (erE B env) (erS B s):=by
 have fin: ∀Q':Exit->Env->St->Prop,(Q'=λe env s=>e=.normal/\YK P N ρ Q k y env s)->AWp P N ρ (.region id ops d) Q' (erE B env) (erS B s):=by
  intro Q' hQ
  cases d with
  |false=>
   simp only[enterReg]at h
   cases hg:(guardsOk ops.toList&&dstsOk N ops.toList)with
   |false=>simp[hg]at h
   |true=>
    simp only[hg,cond_true]at h
    cases h
    simp only[Bool.and_eq_true]at hg
    refine awp_regO (K:=YK P N ρ Q k y) ops.toList rfl hg.1 hg.2 ?_
    have e:(λenv s=>Q' .normal env s)=YK P N ρ Q k y:=by subst hQ;funext env s;simp
    rw[e];exact hk
  |true=>
   simp only[enterReg]at h
   generalize hp:wPlanOf ops.toList=pl at h
   obtain⟨pre,st⟩:=pl
   simp only at h
   cases hg:(planB P N ops.toList pre st&&(mkD (ins ops.toList) st).all lightD&&P.follows .mixedOrders)with
   |false=>simp[hg]at h
   |true=>
    simp only[hg,cond_true]at h
    cases h
    simp only[Bool.and_eq_true]at hg
    have hk':dq P (YK P N ρ Q k y) (mkD (ins ops.toList) st) [] (erE B env) (erS B s):=hk (λt ht=>by cases ht)
    have e:(λenv s=>Q' .normal env s)=YK P N ρ Q k y:=by subst hQ;funext env s;simp
    refine awp_draw pre st ops.toList rfl hg.2 (planB_ok hg.1.1) (dwq_dws (dq_dwq (tr:=[]) ?_))
    rw[mkD_eq]at hk'
    rw[e];exact hk'
 cases y with
 |none=>exact awp_outN (fin _ rfl)
 |some y=>
  refine awp_seq ?_
  intro G w a hn
  refine wpIn_mono (fin _ rfl G w a hn) ?_
  rintro e2 a2 w2 ⟨G',env',s2,n',x',rfl,hk⟩
  exact⟨G',env',s2,n',x',hk⟩
theorem stepRun_ok{c:Code}{k:List Fr}{env:TEnv B.S}{s:TSt B.S}{M':TM B.S}{q:List (AV×AV)}(h:stepRun B P N c k env s=some (M',q))(hk:RT0 B P N ρ Q M'):AWp P N ρ c (QK P N ρ Q k) (erE B env) (erS B s):=by
 unfold stepRun at h
 split at h
 ·rename_i x y
  split at h
  ·rename_i id ops d
   split at h
   ·rename_i o ho
    cases h
    exact enterReg_ok (id:=id) (y:=some y) ho hk
   ·cases h
  ·cases h
   exact awp_seq hk
 ·rename_i id ops d
  split at h
  ·rename_i o ho
   cases h
   exact enterReg_ok (id:=id) (y:=none) ho hk
  ·cases h
 ·cases h;exact awp_block hk
 ·cases h;exactλG w a hn=>wpIn_skip (hk G w a hn)
 ·cases h;exactλG w a hn=>wpIn_exit (hk G w a hn)
 ·cases h
  have hk:AWp P N ρ _ (NoG (QK P N ρ Q k)) (erE B env) (erS B s):=hk
  exact(awp_scope hk λ_ _ _ h=>h).mono λ_ _ _ h=>h.to
 ·cases h;exactλG w a hn=>wpIn_label (hk G w a hn)
 ·cases h;exactλG w a hn=>wpIn_ret (hk G w a hn)
 ·rename_i t x y
  split at h
  ·rename_i v hv
   split at h
   ·rename_i st b hb
    cases st with
    |false=>cases h
    |true=>
     simp only[cond_true]at h
     cases h
     have hc:oper (erE B env) t=some (.bool b):=by rw[toper_ok,hv,Option.map_some,asB_ok hb]
     exact awp_cond hc (λe=>by subst e;exact hk) (λe=>by subst e;exact hk)
   ·cases h
  ·cases h
 ·cases h
theorem stepOut_ok{e:Exit}{k:List Fr}{env:TEnv B.S}{s:TSt B.S}{M':TM B.S}{q:List (AV×AV)}(h:stepOut B e k env s=some (M',q))(hk:RT0 B P N ρ Q M'):RW0 P N ρ Q ⟨.out e,k,erE B env,erS B s⟩:=by
 unfold stepOut at h
 split at h
 ·cases h
 ·rename_i fr k
  split at h
  ·rename_i y
   split at h
   ·cases h;exactλG w a hn=>hn.after hk
   ·rename_i hne
    cases h
    intro G w a hn
    refine After.of (hk G w a hn) λenv s hq=>?_
    cases e with
    |normal=>exact absurd rfl hne
    |exit _=>exact hq
    |goto _=>exact hq
    |ret=>exact hq
    |panic _=>exact hq
    |outgrown=>exact hq
  ·rename_i id
   split at h
   ·rename_i j
    cases hb:Nat.beq j id with
    |true=>
     rw[hb]at h
     cases h
     intro G w a hn
     refine After.of (hk G w a hn) λenv s hq=>?_
     show InBlock id (QK P N ρ Q k) (.exit j) env s
     simp only[InBlock]
     rw[if_pos (Nat.eq_of_beq_eq_true hb)];exact hq
    |false=>
     rw[hb]at h
     cases h
     intro G w a hn
     refine After.of (hk G w a hn) λenv s hq=>?_
     show InBlock id (QK P N ρ Q k) (.exit j) env s
     simp only[InBlock]
     rw[if_neg (λe=>by subst e;rw[show Nat.beq j j=true from Nat.beq_refl j]at hb;cases hb)];exact hq
   ·rename_i hne
    cases h
    intro G w a hn
    refine After.of (hk G w a hn) λenv s hq=>?_
    cases e with
    |exit j=>exact absurd rfl (hne j)
    |normal=>exact hq
    |goto _=>exact hq
    |ret=>exact hq
    |panic _=>exact hq
    |outgrown=>exact hq
  ·cases h
  ·split at h
   ·cases h
   ·rename_i hne
    cases h
    intro G w a hn
    refine After.of (hk G w a hn) λenv s hq=>?_
    cases e with
    |goto l=>exact absurd rfl (hne l)
    |normal=>exact hq
    |exit _=>exact hq
    |ret=>exact hq
    |panic _=>exact hq
    |outgrown=>exact hq
theorem stepO_ok{l:List Ins}{y:Option Code}{k:List Fr}{env:TEnv B.S}{s:TSt B.S}{M':TM B.S}{q:List (AV×AV)}(h:stepO B P l y k env s=some (M',q))(hk:RT0 B P N ρ Q M'):rwsO P (YK P N ρ Q k y) l (erE B env) (erS B s):=by
 unfold stepO at h
 split at h
 ·cases h;exact endReg_ok hk
 ·rename_i i l
  show gws _ _ _ _
  refine gdT_ok (B:=B) ?_
  split at h
  ·rename_i hg
   cases hc:(callOf i.op).isSome with
   |true=>rw[hc]at h;cases h
   |false=>
    rw[hc]at h
    cases h
    have hc:callOf i.op=none:=by cases hq:callOf i.op<;>simp_all
    exact own_ok hc (K':=λv s'=>rwsO P (YK P N ρ Q k y) l (eput i.dst v (erE B env)) s') (λv s' h=>h) hk
  ·rename_i hg
   cases h
   have:rwsO P (YK P N ρ Q k y) l (erE B (eputT i.dst (.tup []) env)) (erS B s):=hk
   rw[eput_er]at this
   exact this
  ·cases h
theorem stepD_ok{l:List DI}{n:List (Note B.S)}{y:Option Code}{k:List Fr}{env:TEnv B.S}{s:TSt B.S}{M':TM B.S}{q:List (AV×AV)}(h:stepD B P l n y k env s=some (M',q))(hk:RT0 B P N ρ Q M')(hn:okN B P s n):dq P (YK P N ρ Q k y) l (erN B n) (erE B env) (erS B s):=by
 unfold stepD at h
 split at h
 ·cases h;exact endReg_ok hk
 ·rename_i st i sl l
  have skip:RT0 B P N ρ Q ⟨.rd l n y,k,eputT i.dst (.tup []) env,s⟩->dq P (YK P N ρ Q k y) l (erN B n) (eput i.dst (.tup []) (erE B env)) (erS B s):=λh=>by
   have:=h hn
   simp only[eput_er]at this
   exact this
  split at h
  ·rename_i j b
   show gwq _ _ _ _
   refine gdT_okq (B:=B) ?_
   split at h
   ·rename_i hg
    cases hl:isLight i.op with
    |false=>rw[hl]at h;cases h
    |true=>
     rw[hl]at h
     cases h
     have:=hk hl (top_ok (light_call hl)) hn
     rw[envOf_er]at this
     cases b with
     |true=>exact this
     |false=>exact this
   ·rename_i hg
    cases h
    exact skip hk
   ·cases h
  ·rename_i j c
   show gwq _ _ _ _
   refine gdT_okq (B:=B) ?_
   split at h
   ·rename_i hg
    cases hc:(callOf i.op).isSome with
    |true=>rw[hc]at h;cases h
    |false=>
     rw[hc]at h
     cases h
     have hc:callOf i.op=none:=by cases hq:callOf i.op<;>simp_all
     obtain⟨v,s',e,h1,h2⟩:=top_ok (B:=B) (P:=P) hc _ (hk hn)
     rw[envOf_er]at e
     show ows _ _ _ _ _
     unfold ows
     simp only[hc,e]
     exact⟨h1,h2⟩
   ·rename_i hg
    cases h
    exact skip hk
   ·cases h
  ·rename_i j
   split at h
   ·rename_i v s' hv
    cases hc:(callOf i.op).isSome with
    |true=>rw[hc]at h;cases h
    |false=>
     rw[hc]at h
     cases h
     have hc:callOf i.op=none:=by cases hq:callOf i.op<;>simp_all
     obtain⟨v',s2,e,e1,e2⟩:=top_ok (B:=B) (P:=P) (s:=s) (env:=[]) hc (λa b=>a=v/\b=s') (by rw[hv];exact⟨rfl,rfl⟩)
     subst e1;subst e2
     have e:aop P i.op [] (erS B s)=_:=e
     have:=hk (okN_stale hn)
     simp only[eput_er,erN_stale]at this
     simp only[dq,e]
     exact this
   ·cases h
 ·cases h
theorem stepT_ok{M M':TM B.S}{q:List (AV×AV)}(h:stepT B P N M=some (M',q))(hq: ∀p∈q,p.1=p.2)(hk:RT0 B P N ρ Q M'):RT0 B P N ρ Q M:=by
 obtain⟨o,k,env,s⟩:=M
 unfold stepT at h
 split at h
 ·rename_i c ho
  simp only at ho;subst ho
  exact stepRun_ok h hk
 ·rename_i e ho
  simp only at ho;subst ho
  exact stepOut_ok h hk
 ·rename_i l y ho
  simp only at ho;subst ho
  exact stepO_ok h hk
 ·rename_i r d l y ho
  simp only at ho;subst ho
  split at h
  ·rename_i v s'
   cases h
   have:rwsO P (YK P N ρ Q k y) l (erE B (eputT d v env)) (erS B s'):=hk
   rw[eput_er]at this
   exact this
  ·rename_i a b r
   cases h
   exact⟨hq (a,b) (by simp),hk⟩
  ·cases h
 ·rename_i l n y ho
  simp only at ho;subst ho
  exactλhn=>stepD_ok h hk hn
 ·rename_i r i b op e d l n y ho
  simp only at ho;subst ho
  intro hl hs hn
  split at h
  ·rename_i v s'
   cases h
   obtain⟨v',s2,e0,e1,e2⟩:=hs (λa b=>a=v/\b=s') ⟨rfl,rfl⟩
   subst e1;subst e2
   have h0:=light_same hl e0
   simp only[e0]
   cases b with
   |true=>
    have:=hk (by
     intro t ht
     rcases List.mem_cons.1 ht with rfl|ht
     ·exact⟨hl,λ_=>by have e:=e0;rw[h0]at e;exact e⟩
     ·exact hn t ht)
    simp only[eput_er]at this
    exact this
   |false=>
    have:=hk hn
    simp only[eput_er]at this
    exact this
  ·rename_i a b' r
   cases h
   refine hk hl (λK hK=>hs K ⟨hq (a,b') (by simp),hK⟩) hn
  ·cases h
 ·rename_i r c d l n y ho
  simp only at ho;subst ho
  intro hn
  split at h
  ·rename_i v s'
   split at h
   ·rename_i q' hc
    cases h
    have:=hk (okN_stale hn)
    simp only[eput_er,erN_stale]at this
    exact⟨chkT_ok hn (λe=>by cases e) hc hq,this⟩
   ·cases h
  ·rename_i a b r
   cases h
   exact⟨hq (a,b) (by simp),hk hn⟩
  ·cases h
theorem goT_ok{u:TM B.S->Bool}: ∀{f:Nat}{M:TM B.S},(∀p∈(goT B P N u f M).2,p.1=p.2)->RT0 B P N ρ Q (goT B P N u f M).1->RT0 B P N ρ Q M
 |0,_,_,h=>h
 |f+1,M,hq,h=>by
  unfold goT at hq h
  cases hu:u M with
  |true=>rw[hu]at h;exact h
  |false=>
   rw[hu]at hq h
   simp only[cond_false]at hq h
   cases hs:stepT B P N M with
   |none=>rw[hs]at h;exact h
   |some r=>
    obtain⟨M',q⟩:=r
    rw[hs]at hq h
    simp only at hq h
    exact stepT_ok hs (λp hp=>hq p (List.mem_append_left _ hp)) (goT_ok (λp hp=>hq p (List.mem_append_right _ hp)) h)
end
end Go.Am
