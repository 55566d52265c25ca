/- The logic AM, D: rules for generated walks, states under new names, frames, hints. -/
import Derived.Test.YtgpciecmgoppiaaGreatAmC
set_option linter.all false
section
namespace Go.Am
open Go.RowKit
theorem ry{β:Type}: ∀{l:List (Nat×β)}{i:Nat}{x:β},bn l i=some x->dM l i x=l
 | [],_,_,h=>by simp[df,cG]at h
 |(k,y)::r,i,x,h=>by
  simp only[df,cG]at h;simp only[L6,tz];split at h
  ·rename_i e;subst e;cases h;simp
  ·rename_i e;rw[fN e,ry h]
def Dw(g:Option (Nat×Bool))(bf:Env)(A B:Env->Prop):Prop:=match g with
 |none=>A bf
 |some (d,want)=>match bn bf d with
  |some (.bool b)=>(b=want->A (dM bf d (.bool want)))/\(b=!want->B (dM bf d (.bool (!want))))
  |some (.dS [])=>B bf
  |_=>False
theorem IA{g:Option (Nat×Bool)}{bf:Env}{A B:Env->Prop}{A' B':Prop}(h:Dw g bf A B)(ha:A bf->A')(hb:B bf->B'):DQ g bf A' B':=by
 unfold Dw at h;unfold DQ
 grind [ry]
theorem MM{P:Program}{op:Op}{K K':AV->St->Prop}{bf:Env}{s:St}(h:ows P op K bf s)(hk: ∀v s',K v s'->K' v s'):ows P op K' bf s:=by
 unfold ows at h |-
 split at h
 ·split at h
  ·exact⟨h.1,h.2.mono hk⟩
  ·exact h.mono hk
  ·cases h
 grind
theorem vC{P:Program}{op:Op}{K K':AV->St->Prop}{bf:Env}{s:St}(h:Gx P op K bf s)(hk: ∀v s',K v s'->K' v s'):Gx P op K' bf s:=h.imp (λh=>MM h hk) λh=>Bd h hk
def IB(P:Program)(l:List Oper)(K:Env->St->Prop):List Step->List (Nat×Env×AV)->Env->St->Prop
 | [],_,bf,s=>K bf s
 |.gP i note::r,tr,bf,s=>match l[i]? with
  |some o=>Dw (mG l o).guard bf (λbf=>match gH P o.op (gm (iM o) bf) s with
    |some (v,_)=>IB P l K r (if note then(i,gm (iM o) bf,v)::tr else tr) (eH o.dst v bf) s
    |none=>False) (λbf=>IB P l K r tr (eH o.dst (.dS []) bf) s)
  |none=>False
 |.gz i rn::r,tr,bf,s=>match l[i]? with
  |some o=>Dw (mG l o).guard bf (λbf=>Gx P o.op (λv s'=>sK P l tr s' rn/\IB P l K r tr (eH o.dst v bf) s') (gm (iM o) bf) s) (λbf=>IB P l K r tr (eH o.dst (.dS []) bf) s)
  |none=>False
 |.alloc i::r,tr,bf,s=>match l[i]? with
  |some o=>match gH P o.op [] s with
   |some (v,s')=>IB P l K r tr (eH o.dst v bf) s'
   |none=>False
  |none=>False
theorem pj{P:Program}{l:List Oper}{K:Env->St->Prop}: ∀{br:List Step}{tr:List (Nat×Env×AV)}{bf:Env}{s:St},IB P l K br tr bf s->An P l K br tr bf s
 | [],_,_,_,h=>h
 |.gP i note::r,tr,bf,s,h=>by
  simp only[IB]at h;simp only[An];split at h
  ·rename_i o ho;simp only[ho];refine IA h (λh=>?_) (λh=>pj h);split at h
   ·rename_i v s' hx;simp only[hx];exact pj h
   ·cases h
  ·cases h
 |.gz i rn::r,tr,bf,s,h=>by
  simp only[IB]at h;simp only[An];split at h
  ·rename_i o ho;simp only[ho];exact IA h (λh=>vC h λ_ _ h=>⟨h.1,pj h.2⟩) (λh=>pj h)
  ·cases h
 |.alloc i::r,tr,bf,s,h=>by
  simp only[IB]at h;simp only[An];split at h
  ·rename_i o ho;simp only[ho];split at h
   ·rename_i v s' hx;simp only[hx];exact pj h
   ·cases h
  ·cases h
structure DI where
 st:Step
 ins:Option Ins
 abo:List Nat
def Ky(l:List Oper):List Step->List DI
 | []=>[]
 |st::r=>⟨st,(l[st.idx]?).map (mG l),(match l[st.idx]? with|some o=>iM o|none=>[])⟩::Ky l r
def wA:List (Nat×Op×Env×AV)->Nat->Option (Op×Env×AV)
 | [],_=>none
 |(k,x)::r,i=>if k=i then some x else wA r i
def rZ(P:Program)(tr:List (Nat×Op×Env×AV))(s:St):List Nat->Prop
 | []=>True
 |j::r=>(match wA tr j with
  |some (op,e,v)=>gH P op e s=some (v,s)
  |none=>True)/\rZ P tr s r
def dq(P:Program)(K:Env->St->Prop):List DI->List (Nat×Op×Env×AV)->Env->St->Prop
 | [],_,bf,s=>K bf s
 |⟨.gP i note,some n,sl⟩::r,tr,bf,s=>Dw n.guard bf (λbf=>match gH P n.op (gm sl bf) s with
   |some (v,_)=>dq P K r (if note then(i,n.op,gm sl bf,v)::tr else tr) (eH n.dst v bf) s
   |none=>False) (λbf=>dq P K r tr (eH n.dst (.dS []) bf) s)
 |⟨.gz _ rn,some n,sl⟩::r,tr,bf,s=>Dw n.guard bf (λbf=>Gx P n.op (λv s'=>rZ P tr s' rn/\dq P K r tr (eH n.dst v bf) s') (gm sl bf) s) (λbf=>dq P K r tr (eH n.dst (.dS []) bf) s)
 |⟨.alloc _,some n,_⟩::r,tr,bf,s=>match gH P n.op [] s with
  |some (v,s')=>dq P K r tr (eH n.dst v bf) s'
  |none=>False
 |⟨_,none,_⟩::_,_,_,_=>False
def Qo(l:List Oper)(i:Nat):Op:=match l[i]? with
 |some o=>o.op
 |none=>.move (.const undef)
def PI(l:List Oper)(tr:List (Nat×Env×AV)):List (Nat×Op×Env×AV):=tr.map λp=>(p.1,Qo l p.1,p.2.1,p.2.2)
theorem D8(l:List Oper): ∀(tr:List (Nat×Env×AV))(j:Nat),wA (PI l tr) j=(qn tr j).map λp=>(Qo l j,p.1,p.2)
 | [],j=>rfl
 |(k,e,v)::r,j=>by
  have ih:=D8 l r j;unfold PI at ih;simp only[PI,Aj,wA,qn];split
  ·rename_i h;subst h;rfl
  ·exact ih
theorem yB{P:Program}{l:List Oper}{tr:List (Nat×Env×AV)}{s:St}: ∀{rn:List Nat},rZ P (PI l tr) s rn->sK P l tr s rn
 | [],_=>trivial
 |j::r,⟨h1,h2⟩=>by
  refine⟨?_,yB h2⟩;rw[D8]at h1;split
  ·rename_i e v o hf hl;simp only[hf,iJ,Qo,hl]at h1;exact h1
  ·trivial
theorem nR{P:Program}{l:List Oper}{K:Env->St->Prop}: ∀{br:List Step}{tr:List (Nat×Env×AV)}{bf:Env}{s:St},dq P K (Ky l br) (PI l tr) bf s->IB P l K br tr bf s
 | [],_,_,_,h=>h
 |st::r,tr,bf,s,h=>by
  simp only[Ky]at h;cases ho:l[st.idx]? with
  |none=>
   simp only[ho,RY]at h;cases st<;>exact h.elim
  |some o=>
   simp only[ho,iJ]at h;cases st with
   |gP i note=>
    simp only[Step.idx]at ho;simp only[dq]at h;simp only[IB,ho];have key: ∀{bf:Env},(match gH P (mG l o).op (gm (iM o) bf) s with
      |some (v,_)=>dq P K (Ky l r) (if note then(i,(mG l o).op,gm (iM o) bf,v)::PI l tr else PI l tr) (eH (mG l o).dst v bf) s
      |none=>False)->(match gH P o.op (gm (iM o) bf) s with
      |some (v,_)=>IB P l K r (if note then(i,gm (iM o) bf,v)::tr else tr) (eH o.dst v bf) s
      |none=>False):=λh=>by
     have e:(mG l o).op=o.op:=rfl;rw[e]at h;split at h
     ·rename_i v s1 hv
      try simp only[hv]
      refine nR ?_;cases note
      ·exact h
      ·simp only[Ak]at h |-
       have: ∀e,PI l ((i,e,v)::tr)=(i,o.op,e,v)::PI l tr:=λe=>by simp[PI,Qo,ho]
       rw[this];exact h
     ·cases h
    unfold Dw at h |-
    split at h
    ·exact key h
    ·split at h
     ·exact⟨λe=>key (h.1 e),λe=>nR (h.2 e)⟩
     ·exact nR h
     ·cases h
   |gz i rn=>
    simp only[Step.idx]at ho;simp only[dq]at h;simp only[IB,ho];unfold Dw at h |-
    split at h
    ·exact vC h λ_ _ h=>⟨yB h.1,nR h.2⟩
    ·split at h
     ·exact⟨λe=>vC (h.1 e) λ_ _ h=>⟨yB h.1,nR h.2⟩,λe=>nR (h.2 e)⟩
     ·exact nR h
     ·cases h
   |alloc i=>
    simp only[Step.idx]at ho;simp only[dq]at h;simp only[IB,ho];split at h
    ·rename_i v s' hv;have WO:gH P o.op [] s=some (v,s'):=hv;rw[WO];exact nR h
    ·cases h
def IC(op:Op):List Nat:=op.operands.toList.flatMap R5
def ID(I:List Ins):List Step->List DI
 | []=>[]
 |st::r=>⟨st,I[st.idx]?,(match I[st.idx]? with|some n=>IC n.op|none=>[])⟩::ID I r
theorem GG(l:List Oper): ∀br,ID (ins l) br=Ky l br
 | []=>rfl
 |st::r=>by
  have e:(ins l)[st.idx]? =(l[st.idx]?).map (mG l):=by unfold ins;rw[xR]
  simp only[ID,Ky,GG l r,e];cases l[st.idx]?<;>rfl
section
variable {P:Program} {K:Env->St->Prop} {d:Option Nat} {op:Op} {r:List Ins} {bf:Env} {s:St} {t:Nat} {w:Bool}
end
section
variable {P:Program} {K:Env->St->Prop} {d:Option Nat} {op:Op} {r:List DI} {bf:Env} {s:St} {t:Nat} {w:Bool} {i:Nat} {note:Bool} {sl rn:List Nat} {tr:List (Nat×Op×Env×AV)} {st:Step}
end
section
variable {P:Program} {N:Nat} {ρ:Option Nat} {Q:Exit->Env->St->Prop} {bf:Env} {s:St} {c:Code}
end
theorem Gw.self{s:St}(h: ∀id,bn s.heap id≠some .gq):Gw s s:=⟨λid b hg=>⟨hg,λe=>by grind⟩,fw _⟩
def qu:gM->Bool
 |.gq=>true
 |.cells _ _=>false
 |.loop _=>false
def nj:List (Nat×gM)->Bool
 | []=>true
 |(_,b)::r=>!qu b&&nj r
theorem mT: ∀{l:List (Nat×gM)},nj l=true-> ∀id,bn l id≠some .gq
 | [],_,id,h=>by simp[df,cG]at h
 |(k,b)::r,hn,id,h=>by
  simp only[df,cG]at h;split at h
  ·cases h;simp[nj,qu]at hn
  ·simp only[nj,eU]at hn;exact mT hn.2 id h
theorem w64{n:Int}(h1: -9223372036854775808<=n)(h2:n<=9223372036854775807):IntKind.i64.wrap n=n:=by rw[IntKind.wrap_i64];omega
theorem kR{β:Type}: ∀{l:List (Nat×β)}{i:Nat}{x:β},bn l i=some x->(i,x)∈l
 | [],i,x,h=>by simp[df,cG]at h
 |(k,y)::r,i,x,h=>by
  simp only[df,cG]at h;split at h
  ·rename_i e;subst e;cases h;simp
  ·exact VK _ (kR h)
section
@[simp] theorem VY(l:List AV):(AV.agg l).cells=l:=rfl
@[simp] theorem VZ(k:IntKind)(n:Int):(AV.int k n).cells=[.int k n]:=rfl
@[simp] theorem TG(b:Bool):(AV.bool b).cells=[.bool b]:=rfl
@[simp] theorem V0(b:ByteArray):(AV.str b).cells=[.str b]:=rfl
@[simp] theorem Xa(b:Bool)(l:List AV):(AV.sl b l).cells=[.sl b l]:=rfl
@[simp] theorem Xb(i a b:Nat):(AV.ms i a b).cells=[.ms i a b]:=rfl
@[simp] theorem Xc(i a b:Nat):(AV.mp i a b).cells=[.mp i a b]:=rfl
@[simp] theorem TH:AV.jN.cells=[.jN]:=rfl
@[simp] theorem TI:AV.nB.cells=[.nB]:=rfl
@[simp] theorem Xd(f:FuncId)(l:List AV):(AV.fn f l).cells=[.fn f l]:=rfl
@[simp] theorem TJ(l:List AV):(AV.agg l).cJ=false:=rfl
@[simp] theorem TK(k:IntKind)(n:Int):(AV.int k n).cJ=true:=rfl
@[simp] theorem Sc(b:Bool):(AV.bool b).cJ=true:=rfl
@[simp] theorem TL(b:ByteArray):(AV.str b).cJ=true:=rfl
@[simp] theorem V1(b:Bool)(l:List AV):(AV.sl b l).cJ=true:=rfl
@[simp] theorem V2(i a b:Nat):(AV.ms i a b).cJ=true:=rfl
@[simp] theorem V3(i a b:Nat):(AV.mp i a b).cJ=true:=rfl
@[simp] theorem Sd:AV.jN.cJ=true:=rfl
@[simp] theorem Se:AV.nB.cJ=true:=rfl
@[simp] theorem V4(f:FuncId)(l:List AV):(AV.fn f l).cJ=true:=rfl
end
theorem GH(t:Nat)(r:List Nat)(bf:Env):gm (t::r) bf=(match bn bf t with
  |some x=>(t,x)::gm r bf
  |none=>gm r bf):=by
 simp only[gm,List.filterMap_cons]
 grind
end Go.Am
end
section
namespace Go.Am
open Go.RowKit
mutual
inductive Co (ok:Nat->Bool) (π:Nat->Nat):AV->AV->Prop
 |c {x:AV} (h:x.dn=true):Co ok π x x
 |s {b:Bool} {l:List AV} (h:eO l=true):Co ok π (.sl false l) (.sl b l)
 |l {b:Bool} {xs ys:List AV} (h:qw ok π xs ys):Co ok π (.sl false xs) (.sl b ys)
 |n {id a:Nat}:Co ok π (.ms id a 0) (.sl true [])
 |mp {id fq el off:Nat} (h:ok id=true) (h':π id=fq):Co ok π (.mp id el off) (.mp fq el off)
 |y {id fq:Nat} (h:ok id=true) (h':π id=fq):Co ok π (.kK id) (.kK fq)
 |ms {id fq a b:Nat} (h:ok id=true) (h':π id=fq):Co ok π (.ms id a b) (.ms fq a b)
 |mc {id fq a b c:Nat} (h:ok id=true) (h':π id=fq):Co ok π (.mc id a b c) (.mc fq a b c)
 |mf {id fq a b b' c:Nat} (h:ok id=true) (h':π id=fq) (hb:b=b'):Co ok π (.ms id a b) (.mc fq a b' c)
 |e {id fq a b b':Nat} (h:ok id=true) (h':π id=fq) (hb:b=b'):Co ok π (.ms id a b) (.ms fq a b')
 |a {xs ys:List AV} (h:qw ok π xs ys):Co ok π (.agg xs) (.agg ys)
 |t {xs ys:List AV} (h:qw ok π xs ys):Co ok π (.dS xs) (.dS ys)
 |f {g:FuncId} {xs ys:List AV} (h:qw ok π xs ys):Co ok π (.fn g xs) (.fn g ys)
inductive qw (ok:Nat->Bool) (π:Nat->Nat):List AV->List AV->Prop
 |z:qw ok π [] []
 |k {x y:AV} {xs ys:List AV} (h:Co ok π x y) (hs:qw ok π xs ys):qw ok π (x::xs) (y::ys)
 |r {xs:List AV} (h:eO xs=true):qw ok π xs xs
 |p {xs ys xs' ys':List AV} (h:qw ok π xs ys) (h':qw ok π xs' ys'):qw ok π (xs++xs') (ys++ys')
end
inductive AD (ok:Nat->Bool) (π:Nat->Nat):gM->gM->Prop
 |cells {cq:Nat} {xs ys:List AV} (h:qw ok π xs ys):AD ok π (.cells cq xs) (.cells cq ys)
 |cut {cq:Nat} {xs ys zs:List AV} (h:qw ok π xs ys):AD ok π (.cells cq xs) (.cells cq (ys++zs))
 |gq:AD ok π .gq .gq
 |loop {ks:List Nat} {xs ys:List AV} {N:Nat} {ps:List Tmp} {a b:Code} {st:LoopState} {pd:Option Code} (h:qw ok π xs ys):AD ok π (.loop ⟨lu ks xs,N,ps,a,b,st,pd⟩) (.loop ⟨lu ks ys,N,ps,a,b,st,pd⟩)
theorem nk{l:List AV}(h:eO l=true){i:Nat}{x:AV}(hx:l[i]? =some x):x.dn=true:=ec.1 h x (gN hx)
section
variable {ok:Nat->Bool} {π:Nat->Nat} {G G':bS}
theorem qw.length: ∀{xs ys:List AV},qw ok π xs ys->xs.length=ys.length
 |_,_,.z=>rfl
 |_,_,.k _ hs=>by simp[hs.length]
 |_,_,.r _=>rfl
 |_,_,.p h h'=>by simp[h.length,h'.length]
theorem qw.get: ∀{xs ys:List AV},qw ok π xs ys-> ∀{i:Nat}{x:AV},xs[i]? =some x-> ∃y,ys[i]? =some y/\Co ok π x y
 |_,_,.z,i,x,h=>by simp at h
 |_,_,.k h0 hs,i,x,h=>by
  cases i with
  |zero=>grind
  |succ i=>exact hs.get (by simpa using h)
 |_,_,.r hc,i,x,h=>⟨x,h,.c (nk hc h)⟩
 |_,_,.p (xs:=xs) (ys:=ys) (xs':=xs') (ys':=ys') h1 h2,i,x,h=>by
  have hl:=h1.length;by_cases hi:i<xs.length
  ·rw[Aq hi]at h;obtain⟨y,hy,hc⟩:=h1.get h
   grind
  ·rw[DB (by omega)]at h;obtain⟨y,hy,hc⟩:=h2.get h
   grind
structure Seen (ok:Nat->Bool) (π:Nat->Nat) (G G':bS):Prop where
 ig: ∀b o v,G.ig b o=some v->G'.ig b o=some v
 own: ∀id r,ok id=true->G.own (π id)=some r->G'.own id=some r
theorem Co.cells{x y:AV}(h:Co ok π x y):qw ok π x.cells y.cells:=by
 have one: ∀{x y:AV},x.cells=[x]->y.cells=[y]->Co ok π x y->qw ok π x.cells y.cells:=λh1 h2 h=>by rw[h1,h2];exact .k h .z
 cases h with
 |c hc=>exact .r (ec.2 (lX hc))
 |s hc=>exact one rfl rfl (.s hc)
 |l hc=>exact one rfl rfl (.l hc)
 |n=>exact one rfl rfl .n
 |mp h h'=>exact one rfl rfl (.mp h h')
 |y h h'=>exact one rfl rfl (.y h h')
 |ms h h'=>exact one rfl rfl (.ms h h')
 |mc h h'=>exact one rfl rfl (.mc h h')
 |mf h h' hb=>exact one rfl rfl (.mf h h' hb)
 |e h h' hb=>exact one rfl rfl (.e h h' hb)
 |a h=>exact h
 |t h=>exact one rfl rfl (.t h)
 |f h=>exact one rfl rfl (.f h)
theorem Co.cJ{x y:AV}(h:Co ok π x y):x.cJ=y.cJ:=by cases h<;>rfl
theorem qw.de: ∀{xs ys:List AV},qw ok π xs ys->qw ok π (de xs) (de ys)
 |_,_,.z=>.z
 |_,_,.k h hs=>by rw[jl,jl];exact .p h.cells hs.de
 |_,_,.r hc=>.r (ec.2 λy hy=>by
  rw[Go.Am.de,tw]at hy
  grind [lX,ec])
 |_,_,.p h h'=>by rw[dx,dx];exact .p h.de h'.de
theorem qw.mem{xs ys:List AV}(h:qw ok π xs ys){x:AV}(hx:x∈xs): ∃y∈ys,Co ok π x y:=by
 obtain⟨i,hi,rfl⟩:=qZ hx;obtain⟨y,hy,hc⟩:=h.get (dF hi)
 grind
theorem Co.V(hG:Seen ok π G G'){x y:AV}{v:Value}(hv:V G y v):Co ok π x y->V G' x v:=by
 induction hv generalizing x with
 |any v=>intro h;cases h;exact .any _
 |bool b=>intro h;cases h<;>exact .bool b
 |int k n=>intro h;cases h<;>exact .int k n
 |str s=>intro h;cases h<;>exact .str s
 |jN=>intro h;cases h<;>exact .jN
 |nB=>intro h;cases h<;>exact .nB
 |slnil full bG cap hf hb=>
  intro h;cases h with
  |c=>exact .slnil full bG cap hf hb
  |s=>exact .slnil false bG cap (λe=>by cases e) hb
  |l hl=>
   rename_i xs;have:xs=[]:=Py (by simpa using hl.length);subst this;exact .slnil false bG cap (λe=>by cases e) hb
  |n=>exact .gO _ _ _ _ (hf rfl)
 |sl full elems b off cq cap val jC jX eo kI gE hV ih=>
  intro h;cases h with
  |c hc=>exact .sl full elems b off cq cap val jC jX eo kI (λk hk=>hG.ig _ _ _ (gE k hk)) λk x hx=>(hV k x hx).dn hG.ig (by
    have hc:eO elems=true:=by simpa[AV.dn]using hc
    have hm:x∈de elems:=gN hx;rw[de,tw]at hm
    grind [lX,ec])
  |s hc=>exact .sl false elems b off cq cap val jC (λe=>by cases e) eo kI (λk hk=>hG.ig _ _ _ (gE k hk)) λk x hx=>(hV k x hx).dn hG.ig (by
    have hm:x∈de elems:=gN hx;rw[de,tw]at hm
    grind [lX,ec])
  |l hl=>
   rw[<-hl.length];exact .sl false _ b off cq cap val (by rw[hl.length];exact jC) (λe=>by cases e) (λx hx=>by
     obtain⟨y,hy,hc⟩:=hl.mem hx;rw[hc.cells.length];grind) (λx hx=>by
     obtain⟨y,hy,hc⟩:=hl.de.mem hx;rw[hc.cJ];grind) (λk hk=>hG.ig _ _ _ (gE k (by rw[<-hl.length];exact hk))) λk x hx=>by
     obtain⟨y,hy,hc⟩:=hl.de.get hx
     grind
  |n=>exact .gO _ _ _ _ (by grind)
 |ip cells b off val gE hV ih=>
  intro h;cases h with
  |c hc=>exact .ip cells b off val (λk hk=>hG.ig _ _ _ (gE k hk)) λk x hx=>(hV k x hx).dn hG.ig (nk (by simpa[AV.dn]using hc) hx)
 |mp id el off r h0=>
  intro h;cases h with
  |c hc=>cases hc
  |mp ho hp=>subst hp;exact .mp _ _ _ r (hG.own _ _ ho h0)
 |ms id bq len cap r addr h0 eR ga ha=>
  intro h;cases h with
  |c hc=>cases hc
  |ms ho hp=>subst hp;exact .ms _ _ _ _ r addr (hG.own _ _ ho h0) eR ga ha
  |e ho hp hb=>subst hp;subst hb;exact .ms _ _ _ _ r addr (hG.own _ _ ho h0) eR ga ha
 |gO id bq cap bG h0=>
  intro h;cases h with
  |c hc=>cases hc
  |ms ho hp=>exact .gO _ _ _ _ h0
  |e ho hp hb=>subst hb;exact .gO _ _ _ _ h0
 |mc id bq len cap r addr h0 eR ga ha=>
  intro h;cases h with
  |c hc=>cases hc
  |mc ho hp=>subst hp;exact .mc _ _ _ _ r addr (hG.own _ _ ho h0) eR ga ha
  |mf ho hp hb=>subst hp;subst hb;exact .ms _ _ _ _ r addr (hG.own _ _ ho h0) eR ga ha
 |mE id bq bG=>
  intro h;cases h with
  |c hc=>cases hc
  |mc ho hp=>exact .mE _ _ _
  |mf ho hp hb=>subst hb;exact .gO _ _ _ _ rfl
 |fn f fi vs dK h0 ih=>
  intro h;cases h with
  |c hc=>exact .fn f fi vs dK λi x y hx hy=>(h0 i x y hx hy).dn hG.ig (nk (by simpa[AV.dn]using hc) hx)
  |f hl=>exact .fn f _ vs (by rw[hl.length];exact dK) λi x y hx hy=>let⟨z,hz,hc⟩:=hl.get hx;ih i z y hz hy hc
 |kK id r h0=>
  intro h;cases h with
  |c hc=>cases hc
  |y ho hp=>subst hp;exact .kK _ r (hG.own _ _ ho h0)
 |agg cs vs dK h0 ih=>
  intro h;cases h with
  |c hc=>exact .agg cs vs dK λi x y hx hy=>(h0 i x y hx hy).dn hG.ig (nk (by simpa[AV.dn]using hc) hx)
  |a hl=>exact .agg _ vs (by rw[hl.length];exact dK) λi x y hx hy=>let⟨z,hz,hc⟩:=hl.get hx;ih i z y hz hy hc
 |dS cs vs dK h0 ih=>
  intro h;cases h with
  |c hc=>exact .dS cs vs dK λi x y hx hy=>(h0 i x y hx hy).dn hG.ig (nk (by simpa[AV.dn]using hc) hx)
  |t hl=>exact .dS _ vs (by rw[hl.length];exact dK) λi x y hx hy=>let⟨z,hz,hc⟩:=hl.get hx;ih i z y hz hy hc
theorem AD.holds(hG:Seen ok π G G'){b b':gM}{r:tx}{o:Obj}(h:AD ok π b b')(hh:Holds G r b' o):Holds G' r b o:=by
 cases h with
 |gq=>cases hh;exact .gq
 |loop hl=>
  cases hh with
  |loop _ fn tmps d eB hV=>
   refine .loop _ fn tmps d eB λt x hx=>?_;have key: ∀{ks:List Nat}{xs ys:List AV},xs.length=ys.length->(∀(i:Nat)(x:AV),xs[i]? =some x-> ∃y:AV,ys[i]? =some y/\Co ok π x y)-> ∀t x,bn (lu ks xs) t=some x-> ∃y,bn (lu ks ys) t=some y/\Co ok π x y:=by
    intro ks
    induction ks with
    |nil=>intro xs ys _ _ t x hx;simp[lu,df,cG]at hx
    |cons k r ih=>
     intro xs ys dK hc t x hx;cases xs with
     |nil=>simp[lu,df,cG]at hx
     |cons x0 xs=>
      cases ys with
      |nil=>simp at dK
      |cons y0 ys=>
       simp only[lu,df,cG]at hx |-
       split at hx
       ·rename_i e;cases hx;subst e;obtain⟨y,hy,hcy⟩:=hc 0 _ rfl
        grind
       ·rename_i e;rw[fN e];exact ih (by grind) (λi x hx=>by simpa using hc (i+1) x (by grind)) t x hx
   obtain⟨y,hy,hcy⟩:=key hl.length (λi x hx=>hl.get hx) t x hx;obtain⟨h1,h2⟩:=hV t y hy;exact⟨h1,hcy.V hG h2⟩
 |cells hl=>
  cases hh with
  |cells _ _ cs e eB eo h0 jR kI ga hV=>
   refine .cells _ _ cs e eB eo h0 (λx hx=>?_) (λx hx=>?_) (by rw[hl.length];exact ga) λk x hx=>?_
   ·obtain⟨y,hy,hc⟩:=hl.mem hx;rw[hc.cells.length];grind
   ·obtain⟨y,hy,hc⟩:=hl.de.mem hx;rw[hc.cJ];grind
   ·obtain⟨y,hy,hc⟩:=hl.de.get hx;obtain⟨v,hv,Xe⟩:=hV k y hy;exact⟨v,hv,hc.V hG Xe⟩
 |cut hl=>
  cases hh with
  |cells _ _ cs e eB eo h0 jR kI ga hV=>
   refine .cells _ _ cs e eB eo h0 (λx hx=>?_) (λx hx=>?_) (AW (YN (DA _ (by rw[hl.length,re];grind)) _) ga) λk x hx=>?_
   ·obtain⟨y,hy,hc⟩:=hl.mem hx;rw[hc.cells.length];grind
   ·obtain⟨y,hy,hc⟩:=hl.de.mem hx;rw[hc.cJ];grind [dx]
   ·obtain⟨y,hy,hc⟩:=hl.de.get hx;obtain⟨v,hv,Xe⟩:=hV k y (by grind [dx]);exact⟨v,hv,hc.V hG Xe⟩
theorem AD.nil{b:gM}{cq:Nat}(h:AD ok π b (.cells cq [])):b=.cells cq []:=by
 generalize hb:gM.cells cq []=b' at h;cases h with
 |gq=>cases hb
 |loop hl=>cases hb
 |cells hl=>
  cases hb;rename_i xs;have:xs=[]:=Py (by simpa using hl.length);rw[this]
 |cut hl=>
  injection hb with h1 h2
  subst h1;rename_i xs ys zs;have h3:ys=[]:=(List.append_eq_nil_iff.1 h2.symm).1;have:xs=[]:=Py (by rw[hl.length,h3];rfl)
  grind
theorem qw.V(hG:Seen ok π G G'){xs ys:List AV}{vs:Array Value}(h:qw ok π xs ys)(hv:VL G ys vs):VL G' xs vs:=
 ⟨by rw[h.length];exact hv.1,λi x v hx hi=>let⟨y,hy,hc⟩:=h.get hx;hc.V hG (hv.2 i y v hy hi)⟩
end
def has(h:List (Nat×gM))(id:Nat):Bool:=(bn h id).isSome
theorem iG{h:List (Nat×gM)}{id:Nat}:has h id=true↔ ∃b,bn h id=some b:=by
 unfold has;exact Ar
def fU(bG:Nat)(h:List (Nat×gM))(id:Nat):Bool:=Nat.blt id bG||has h id
structure IntoM (bG:Nat) (π:Nat->Nat) (S2 s:St):Prop where
 heap: ∀id b,bn S2.heap id=some b->(∃b',bn s.heap (π id)=some b'/\AD (fU bG S2.heap) π b b')\/(bG<=id/\s.bN<=π id/\ ∃cq,0<cq/\b=.cells cq [])
 low: ∀id,id<bG->π id=id
 inj: ∀id fq b b',bn S2.heap id=some b->bn S2.heap fq=some b'->π id=π fq->id=fq\/s.bN<=π id
 lt: ∀id b,bn S2.heap id=some b->id<S2.bN
 cb:bG<=S2.bN
structure pN (bG:Nat) (π:Nat->Nat) (S2 s:St):Prop extends IntoM bG π S2 s where
 gq: ∀id,bn s.heap id=some .gq->id<bG/\bn S2.heap id=some .gq
def fX(bG:Nat)(π:Nat->Nat)(h:List (Nat×gM))(G:bS):bS:={ig:=G.ig,own:=λid=>if fU bG h id=true then G.own (π id)else none}
section
variable {bG:Nat} {π:Nat->Nat} {S2 s s0:St} {G G0:bS} {w w0:World}
theorem Bh:Seen (fU bG S2.heap) π G (fX bG π S2.heap G):=
 ⟨λ_ _ _ h=>h,λid r ho hr=>by simp only[fX,ho,Ak];exact hr⟩
theorem oB{h:List (Nat×gM)}{id:Nat}(hl:id<bG):fU bG h id=true:=by simp[fU,hl]
theorem qx{h:List (Nat×gM)}{id:Nat}{b:gM}(hg:bn h id=some b):fU bG h id=true:=by
 simp[fU,iG.2 ⟨b,hg⟩]
theorem xc{h:List (Nat×gM)}{id:Nat}{b:gM}(hg:bn h id=some b):(fX bG π h G).own id=G.own (π id):=by
 simp only[fX,qx hg,Ak]
theorem IntoM.iB(h:IntoM bG π S2 s)(hs:eG G s w):eG (fX bG π S2.heap G) S2 w:=by
 refine⟨hs.lW,λid b hg=>?_,λid fq b b' r r' h1 h2 o1 o2 fG=>?_,λid b r o hg ho=>?_,λid nD=>?_,h.lt⟩
 ·rw[xc hg];rcases h.heap id b hg with⟨b',pW,hc⟩|⟨_,hn,cq,h0,he⟩
  ·rcases hs.heap _ _ pW with⟨r,o,e1,e2,e3⟩|⟨e1,cq,h0,e2⟩
   ·exact .inl ⟨r,o,e1,e2,hc.holds Bh e3⟩
   ·refine .inr ⟨e1,cq,h0,?_⟩;subst e2;exact hc.nil
  ·exact .inr ⟨hs.cj _ hn,cq,h0,he⟩
 ·rw[xc h1]at o1;rw[xc h2]at o2;rcases h.heap id b h1 with⟨c,hc,_⟩|⟨_,hn,_⟩
  ·rcases h.heap fq b' h2 with⟨c',TN,_⟩|⟨_,hn,_⟩
   ·refine hs.apart _ _ c c' r r' hc TN o1 o2 λe=>?_;rcases h.inj id fq b b' h1 h2 e with e|e
    ·exact fG e
    ·have:=hs.lt _ _ hc;omega
   ·rw[hs.cj _ hn]at o2;cases o2
  ·rw[hs.cj _ hn]at o1;cases o1
 ·rw[xc hg]at ho;rcases h.heap id b hg with⟨c,hc,_⟩|⟨_,hn,_⟩
  ·exact hs.clear _ c r o hc ho
  ·rw[hs.cj _ hn]at ho;cases ho
 ·have hb:=h.cb;have:fU bG S2.heap id=false:=by
   cases hq:fU bG S2.heap id with
   |false=>rfl
   |true=>
    simp only[fU,vm,tv]at hq;rcases hq with hq|hq
    ·omega
    ·obtain⟨b,hb⟩:=iG.1 hq;have:=h.lt id b hb;omega
  simp[fX,this]
theorem pN.ext(h:pN bG π S2 s)(h0:eG G0 s0 w0)(hx:Ext G0 s0 w0 G s w)(hs:eG G s w)(hb:s0.bN<=bG):Ext G0 s0 w0 (fX bG π S2.heap G) S2 w:=by
 have lo: ∀id,id<bG->(fX bG π S2.heap G).own id=G.own id:=λid hl=>by simp only[fX,oB hl,Ak,h.low id hl]
 refine⟨⟨hx.le.ig,λid r ho=>?_⟩,hx.os,hx.tape,hx.output,hx.size,hx.keep,hx.jD,λid r ho=>?_,λid b hg=>?_,AW hb h.cb,λid hd=>?_,λid hl ho=>?_,hx.drawn⟩
 ·have:id<s0.bN:=by
   by_cases hq:id<s0.bN
   ·exact hq
   ·rw[h0.cj id (by omega)]at ho;cases ho
  rw[lo id (by omega)];exact hx.le.own _ _ ho
 ·by_cases hl:id<bG
  ·rw[lo id hl]at ho;exact hx.iY id r ho
  ·have F9:fU bG S2.heap id=true:=by
    cases hq:fU bG S2.heap id with
    |true=>rfl
    |false=>simp[fX,hq]at ho
   have hh:has S2.heap id=true:=by
    simp only[fU,vm,tv]at F9
    grind
   obtain⟨b,hg⟩:=iG.1 hh;rw[xc hg]at ho;rcases h.heap id b hg with⟨c,hc,_⟩|⟨_,hn,_⟩
   ·rcases hx.iY _ r ho with q|q
    ·rcases hx.ids _ c hc with⟨c0,q0⟩|q0
     ·exact .inr (.inr ⟨_,c0,r,q0,q,rfl⟩)
     ·rw[h0.cj _ q0]at q;cases q
    grind
   ·rw[hs.cj _ hn]at ho;cases ho
 ·by_cases hl:id<bG
  ·rcases h.heap id b hg with⟨c,hc,_⟩|⟨hn,_⟩
   ·rw[h.low id hl]at hc;exact hx.ids id c hc
   ·omega
  grind
 ·exact(h.gq id (hx.gq id hd)).2
 ·rw[lo id (by omega)];exact hx.stay id hl ho
theorem pN.mr(h:pN bG π S2 s): ∀{ds:List Deferred},oV G s ds->oV (fX bG π S2.heap G) S2 ds
 | [],_=>trivial
 |_::_,⟨⟨id,r,a,b,c,d⟩,hr⟩=>⟨⟨id,r,(h.gq id a).2,by simp only[fX];rw[ez (oB (h.gq id a).1),h.low id (h.gq id a).1];exact b,c,d⟩,h.mr hr⟩
end
structure D9 (bG:Nat) (π:Nat->Nat) (E2:Env) (S2:St) (bf:Env) (s:St):Prop where
 st:pN bG π S2 s
 bf: ∀t x,bn E2 t=some x-> ∃y,bn bf t=some y/\Co (fU bG S2.heap) π x y
section
variable {P:Program} {N:Nat} {ρ:Option Nat} {Q Q':Exit->Env->St->Prop} {bf E2:Env} {s S2:St} {bG:Nat} {π:Nat->Nat}
theorem D9.now(h:D9 bG π E2 S2 bf s){G:bS}{a:Act}{w:World}(AE: ∀id,ρ=some id->id<bG)(hn:wj G N ρ bf s a w):wj (fX bG π S2.heap G) N ρ E2 S2 a w:=by
 refine⟨h.st.iB hn.iB,λt x hx=>?_,hn.size,h.st.mr hn.mr,λid e=>?_⟩
 ·obtain⟨y,hy,hc⟩:=h.bf t x hx;exact⟨(hn.bf t y hy).1,hc.V Bh (hn.bf t y hy).2⟩
 ·obtain⟨r,hr⟩:=hn.known id e;exact⟨r,by simp only[fX];rw[ez (oB (AE id e)),h.st.low id (AE id e)];exact hr⟩
theorem MN{c:Code}(AE: ∀id,ρ=some id->id<s.bN)(h:D9 bG π E2 S2 bf s)(hb:s.bN<=bG)(hk:gY P N ρ c Q E2 S2):gY P N ρ c Q bf s:=λG w a hn=>by
 have To:=h.now (λid e=>RU (AE id e) hb) hn;exact gY.later hk hn.iB hn.known (h.st.ext hn.iB (.refl _ _ _) hn.iB hb) To
def bO{σ τ:Type}(body:σ->Option (σ⊕τ)):Nat->σ->Option τ
 |0,_=>none
 |n+1,st=>match body st with
  |some (.inl Ao)=>bO body n Ao
  |some (.inr r)=>some r
  |none=>none
end
end Go.Am
end
section
namespace Go.Am
open Go.RowKit
def okF(fr:Nat->Bool)(h:List (Nat×gM))(id:Nat):Bool:=has h id&&!fr id
structure Fits (π σ:Nat->Nat) (fr:Nat->Bool) (H0 H1 s s':St):Prop where
 Qp: ∀id b,bn H0.heap id=some b-> ∃b',bn s.heap (π id)=some b'/\AD (fU 0 H0.heap) π b b'
 inj: ∀id fq b b',bn H0.heap id=some b->bn H0.heap fq=some b'->π id=π fq->id=fq
 lt: ∀id b,bn H0.heap id=some b->id<H0.bN
 out: ∀id b,bn s'.heap id=some b->fr id=false-> ∃b',bn H1.heap (σ id)=some b'/\AD (okF fr s'.heap) σ b b'/\(id<s.bN->has H0.heap (σ id)=true/\π (σ id)=id)
 keep: ∀id b,bn s'.heap id=some b->fr id=true->bn s.heap id=some b/\ ∀i b',bn H0.heap i=some b'->π i≠id
 aax: ∀id fq b b',bn s'.heap id=some b->bn s'.heap fq=some b'->fr id=false->fr fq=false->σ id=σ fq->id=fq
 lt': ∀id b,bn s'.heap id=some b->id<s'.bN
 bN:s.bN<=s'.bN
 gq: ∀id,bn s.heap id=some .gq->bn s'.heap id=some .gq
def lx(bN:Nat)(σ:Nat->Nat)(h:List (Nat×gM))(G G':bS):bS:={ig:=G'.ig,own:=λid=>if id<bN then G.own id else if has h id=true then G'.own (σ id)else none}
theorem Fits.Sf{π σ:Nat->Nat}{fr:Nat->Bool}{H0 H1 s s':St}(hf:Fits π σ fr H0 H1 s s'):IntoM 0 π H0 s:=
 ⟨λid b hg=>.inl (hf.Qp id b hg),λid hl=>by omega,λid fq b b' h1 h2 e=>.inl (hf.inj id fq b b' h1 h2 e),λid b hg=>hf.lt id b hg,Ds _⟩
theorem yC{H0 H1 s s':St}{v0 v:AV}{π σ:Nat->Nat}{fr:Nat->Bool}{G:bS}{w w':World}{e:Ending}(hf:Fits π σ fr H0 H1 s s')(hv:Co (okF fr s'.heap) σ v v0)(hs:eG G s w)
  (hg:wZ (fX 0 π H0.heap G) H0 w (λy t=>y=v0/\t=H1) e w'):wZ G s w (λy t=>y=v/\t=s') e w':=by
 have TP: ∀{id b},bn H0.heap id=some b->(fX 0 π H0.heap G).own id=G.own (π id):=λhg=>xc hg;have Sg: ∀{id r},(fX 0 π H0.heap G).own id=some r-> ∃b,bn H0.heap id=some b:=λ{id r}ho=>by
  cases hq:fU 0 H0.heap id with
  |false=>simp[fX,hq]at ho
  |true=>
   simp only[fU,vm,tv,Nat.not_lt_zero,false_or]at hq;exact iG.1 hq
 have IE: ∀b,mF (fX 0 π H0.heap G) H0 b->mF G s b:=λb ⟨id,blk,r,g1,g2,g3⟩=>by
  rw[TP g1]at g2;obtain⟨b',pW,_⟩:=hf.Qp id blk g1;exact⟨π id,b',r,pW,g2,g3⟩
 obtain⟨val,G1,y,t,rfl,hV,hS,hE,rfl,rfl⟩:=hg;have Xf: ∀{id},id<s.bN->(lx s.bN σ s'.heap G G1).own id=G.own id:=λhl=>by simp[lx,hl]
 have Xg: ∀{id b},¬id<s.bN->bn s'.heap id=some b->(lx s.bN σ s'.heap G G1).own id=G1.own (σ id):=λ{id b}hl hg=>by
  simp[lx,hl,iG.2 ⟨_,hg⟩]
 have MO: ∀{id b},bn s'.heap id=some b->fr id=false->(lx s.bN σ s'.heap G G1).own id=G1.own (σ id):=λ{id b}hg sM=>by
  by_cases hl:id<s.bN
  ·rw[Xf hl];obtain⟨_,_,_,hq⟩:=hf.out id b hg sM;obtain⟨h1,h2⟩:=hq hl;obtain⟨c,hc⟩:=iG.1 h1;have h3:=TP hc;rw[h2]at h3;cases hr:G.own id with
   |none=>rw[hr]at h3;exact(hE.stay _ (hf.lt _ _ hc) h3).symm
   |some r=>rw[hr]at h3;exact(hE.le.own _ _ h3).symm
  grind
 have eR:ss G (lx s.bN σ s'.heap G G1):=⟨λb o v hi=>hE.le.ig b o v hi,λid r ho=>by
  have:id<s.bN:=by
   by_cases hq:id<s.bN
   ·exact hq
   ·rw[hs.cj id (by omega)]at ho;cases ho
  grind⟩
 have seen:Seen (okF fr s'.heap) σ G1 (lx s.bN σ s'.heap G G1):=⟨λ_ _ _ h=>h,λid r ho hr=>by
  simp only[okF,eU,sr]at ho
  grind [iG]⟩
 have far: ∀{id b r},bn s.heap id=some b->(∀i b',bn H0.heap i=some b'->π i≠id)->G.own id=some r-> ¬mF (fX 0 π H0.heap G) H0 r.block:=λ{id b r}hg fG ho ⟨i,b',r',g1,g2,g3⟩=>by
  rw[TP g1]at g2;obtain⟨c,hc,_⟩:=hf.Qp i b' g1;exact hs.apart _ _ c b r' r hc hg g2 ho (fG i b' g1) g3
 have Ea: ∀{id b},bn s'.heap id=some b->fr id=true->(lx s.bN σ s'.heap G G1).own id=G.own id:=λhg sM=>Xf (hs.lt _ _ (hf.keep _ _ hg sM).1);have aay: ∀{id fq b b' r r'},bn s'.heap id=some b->bn s'.heap fq=some b'->fr id=false->fr fq=true->(lx s.bN σ s'.heap G G1).own id=some r->(lx s.bN σ s'.heap G G1).own fq=some r'->r.block≠r'.block:=
  λ{id fq b b' r r'}h1 h2 f1 f2 o1 o2 e=>by
   rw[MO h1 f1]at o1;rw[Ea h2 f2]at o2;obtain⟨k1,k2⟩:=hf.keep _ _ h2 f2;have aaz:=far k1 k2 o2;rcases hE.iY _ _ o1 with q|q|q
   ·obtain⟨c,hc⟩:=Sg q;exact aaz ⟨_,c,r,hc,q,e⟩
   ·have:=hs.jE k1 o2;omega
   grind
 refine⟨val,lx s.bN σ s'.heap G G1,v,s',rfl,hv.V seen hV,⟨hS.lW,λid b hg=>?_,λid fq b b' r r' h1 h2 o1 o2 fG=>?_,λid b r o hg ho=>?_,λid nD=>?_,hf.lt'⟩,
  ⟨eR,hE.os,hE.tape,hE.output,hE.size,λb hb ym=>hE.keep b hb λq=>ym (IE b q),λb o u hi=>?_,λid r ho=>?_,λid b hg=>?_,hf.bN,hf.gq,λid hl ho=>by grind,hE.drawn⟩,rfl,rfl⟩
 ·cases sM:fr id with
  |false=>
   rw[MO hg sM];obtain⟨b',pW,hc,_⟩:=hf.out id b hg sM;rcases hS.heap _ _ pW with⟨r,o,e1,e2,e3⟩|⟨e1,cq,h0,e2⟩
   ·exact .inl ⟨r,o,e1,e2,hc.holds seen e3⟩
   ·refine .inr ⟨e1,cq,h0,?_⟩;subst e2;exact hc.nil
  |true=>
   rw[Ea hg sM];obtain⟨k1,k2⟩:=hf.keep _ _ hg sM;rcases hs.heap _ _ k1 with⟨r,o,e1,e2,e3⟩|q
   ·exact .inl ⟨r,o,e1,by rw[hE.keep _ (hs.jE k1 e1) (far k1 k2 e1)];exact e2,e3.mono eR⟩
   grind
 ·cases f1:fr id with
  |false=>
   cases f2:fr fq with
   |false=>
    rw[MO h1 f1]at o1;rw[MO h2 f2]at o2;obtain⟨c,hc,_⟩:=hf.out id b h1 f1;obtain⟨c',TN,_⟩:=hf.out fq b' h2 f2;exact hS.apart _ _ c c' r r' hc TN o1 o2 λe=>fG (hf.aax id fq b b' h1 h2 f1 f2 e)
   |true=>grind
  |true=>
   cases f2:fr fq with
   |false=>grind
   |true=>
    rw[Ea h1 f1]at o1;rw[Ea h2 f2]at o2;exact hs.apart id fq b b' r r' (hf.keep _ _ h1 f1).1 (hf.keep _ _ h2 f2).1 o1 o2 fG
 ·show G1.ig r.block o=none;cases sM:fr id with
  |false=>
   rw[MO hg sM]at ho;obtain⟨c,hc,_⟩:=hf.out id b hg sM;exact hS.clear _ c r o hc ho
  |true=>
   rw[Ea hg sM]at ho;obtain⟨k1,k2⟩:=hf.keep _ _ hg sM;cases hi:G1.ig r.block o with
   |none=>rfl
   |some u=>
    rcases hE.jD _ _ _ hi with q|q|q
    ·have q':G.ig r.block o=some u:=q;rw[hs.clear id b r o k1 ho]at q';cases q'
    ·have:=hs.jE k1 ho;omega
    grind
 ·have hc:=hf.bN;have hn:has s'.heap id=false:=by
   cases hq:has s'.heap id with
   |false=>rfl
   |true=>
    obtain⟨b,hb⟩:=iG.1 hq;have:=hf.lt' id b hb;omega
  have: ¬id<s.bN:=by omega
  simp[lx,this,hn]
 ·rcases hE.jD b o u hi with q|q|q
  ·exact .inl q
  all_goals grind
 ·by_cases hl:id<s.bN
  ·grind
  ·have hh:has s'.heap id=true:=by
    cases hq:has s'.heap id with
    |true=>rfl
    |false=>simp[lx,hl,hq]at ho
   obtain⟨b,hb⟩:=iG.1 hh;rw[Xg hl hb]at ho;rcases hE.iY _ _ ho with q|q|q
   ·obtain⟨c,hc⟩:=Sg q;exact .inr (.inr (IE _ ⟨_,c,r,hc,q,rfl⟩))
   all_goals grind
 ·cases sM:fr id with
  |false=>
   by_cases hl:id<s.bN
   ·obtain⟨_,_,_,hq⟩:=hf.out id b hg sM;obtain⟨h1,h2⟩:=hq hl;obtain⟨c,hc⟩:=iG.1 h1;obtain⟨b',pW,_⟩:=hf.Qp _ c hc
    grind
   grind
  |true=>exact .inl ⟨b,(hf.keep _ _ hg sM).1⟩
theorem Cj{P:Program}{f:FuncId}{cn args:List AV}{H0 H1 s s':St}{v0 v:AV}{π σ:Nat->Nat}{fr:Nat->Bool}(h:dw P f cn H0 λy t=>y=v0/\t=H1)(hf:Fits π σ fr H0 H1 s s')
  (ha:qw (fU 0 H0.heap) π cn args) (hv:Co (okF fr s'.heap) σ v v0):dw P f args s λy t=>y=v/\t=s':=λG w vs hs Gs=>
 (h _ w vs (hf.Sf.iB hs) (ha.V Bh Gs)).mono λ_ _ hg=>yC hf hv hs hg
theorem Ck{P:Program}{id:Nat}{cn args:List AV}{H0 H1 s s':St}{v0 v:AV}{π σ:Nat->Nat}{fr:Nat->Bool}(h:ic P id cn H0 λy t=>y=v0/\t=H1)(nD:has H0.heap id=true)(hf:Fits π σ fr H0 H1 s s')
  (ha:qw (fU 0 H0.heap) π cn args) (hv:Co (okF fr s'.heap) σ v v0):ic P (π id) args s λy t=>y=v/\t=s':=λo G w r vs hs ho Gs=>by
 obtain⟨b,hb⟩:=iG.1 nD;obtain⟨fn,tmps,assign,body,h1,h2⟩:=h o _ w r vs (hf.Sf.iB hs) (by grind [xc]) (ha.V Bh Gs);exact⟨fn,tmps,assign,body,h1,h2.mono λ_ _ hg=>yC hf hv hs hg⟩
mutual
inductive Fz (id:Nat) (elems:List AV):AV->AV->Prop
 |r (x:AV):Fz id elems x x
 |m {bq len:Nat} {l:List AV} (hl:bq+len<=elems.length) (he:(elems.drop bq).take len=l):Fz id elems (.sl false l) (.ms id bq len)
 |o {e:AV} {cs:List AV} (he:elems=[e]) (hc:e.cells=cs):Fz id elems (.ip cs) (.mp id 0 0)
 |a {xs ys:List AV} (h:Ap id elems xs ys):Fz id elems (.agg xs) (.agg ys)
 |t {xs ys:List AV} (h:Ap id elems xs ys):Fz id elems (.dS xs) (.dS ys)
 |f {g:FuncId} {xs ys:List AV} (h:Ap id elems xs ys):Fz id elems (.fn g xs) (.fn g ys)
inductive Ap (id:Nat) (elems:List AV):List AV->List AV->Prop
 |z:Ap id elems [] []
 |k {x y:AV} {xs ys:List AV} (h:Fz id elems x y) (hs:Ap id elems xs ys):Ap id elems (x::xs) (y::ys)
 |r (xs:List AV):Ap id elems xs xs
 |p {xs ys xs' ys':List AV} (h:Ap id elems xs ys) (h':Ap id elems xs' ys'):Ap id elems (xs++xs') (ys++ys')
end
section
variable {id:Nat} {elems:List AV} {G G':bS}
theorem Ap.length: ∀{xs ys:List AV},Ap id elems xs ys->xs.length=ys.length
 |_,_,.z=>rfl
 |_,_,.k _ hs=>by simp[hs.length]
 |_,_,.r _=>rfl
 |_,_,.p h h'=>by simp[h.length,h'.length]
theorem Ap.get: ∀{xs ys:List AV},Ap id elems xs ys-> ∀{i:Nat}{x:AV},xs[i]? =some x-> ∃y,ys[i]? =some y/\Fz id elems x y
 |_,_,.z,i,x,h=>by simp at h
 |_,_,.k h0 hs,i,x,h=>by
  cases i with
  |zero=>grind
  |succ i=>exact hs.get (by simpa using h)
 |_,_,.r _,i,x,h=>⟨x,h,.r x⟩
 |_,_,.p (xs:=xs) (ys:=ys) (xs':=xs') (ys':=ys') h1 h2,i,x,h=>by
  have hl:=h1.length;by_cases hi:i<xs.length
  ·rw[Aq hi]at h;obtain⟨y,hy,hc⟩:=h1.get h
   grind
  ·rw[DB (by omega)]at h;obtain⟨y,hy,hc⟩:=h2.get h
   grind
theorem Ap.mem{xs ys:List AV}(h:Ap id elems xs ys){x:AV}(hx:x∈xs): ∃y∈ys,Fz id elems x y:=by
 obtain⟨i,hi,rfl⟩:=qZ hx;obtain⟨y,hy,hc⟩:=h.get (dF hi)
 grind
theorem Fz.cells{x y:AV}(h:Fz id elems x y):Ap id elems x.cells y.cells:=by
 cases h with
 |r=>exact .r _
 |m hl he=>exact .k (.m hl he) .z
 |o he hc=>exact .k (.o he hc) .z
 |a h=>exact h
 |t h=>exact .k (.t h) .z
 |f h=>exact .k (.f h) .z
theorem Fz.cJ{x y:AV}(h:Fz id elems x y):x.cJ=y.cJ:=by cases h<;>rfl
theorem Ap.de: ∀{xs ys:List AV},Ap id elems xs ys->Ap id elems (de xs) (de ys)
 |_,_,.z=>.z
 |_,_,.k h hs=>by rw[jl,jl];exact .p h.cells hs.de
 |_,_,.r _=>.r _
 |_,_,.p h h'=>by rw[dx,dx];exact .p h.de h'.de
theorem Fz.V(eR:ss G G')(hm:(∀bq len v,bq+len<=elems.length->V G (.ms id bq len) v->V G' (.sl false ((elems.drop bq).take len)) v)/\ ∀e v,elems=[e]->V G (.mp id 0 0) v->V G' (.ip e.cells) v){x y:AV}{v:Value}(hv:V G y v):Fz id elems x y->V G' x v:=by
 induction hv generalizing x with
 |fn f fi vs dK h0 ih=>
  intro h;cases h with
  |r=>exact(V.fn f fi vs dK h0).mono eR
  |f hl=>exact .fn f _ vs (by rw[hl.length];exact dK) λi x y hx hy=>let⟨z,hz,hc⟩:=hl.get hx;ih i z y hz hy hc
 |agg cs vs dK h0 ih=>
  intro h;cases h with
  |r=>exact(V.agg cs vs dK h0).mono eR
  |a hl=>exact .agg _ vs (by rw[hl.length];exact dK) λi x y hx hy=>let⟨z,hz,hc⟩:=hl.get hx;ih i z y hz hy hc
 |dS cs vs dK h0 ih=>
  intro h;cases h with
  |r=>exact(V.dS cs vs dK h0).mono eR
  |t hl=>exact .dS _ vs (by rw[hl.length];exact dK) λi x y hx hy=>let⟨z,hz,hc⟩:=hl.get hx;ih i z y hz hy hc
 |any v=>intro h;cases h;exact .any v
 |bool b=>intro h;cases h;exact .bool b
 |int k n=>intro h;cases h;exact .int k n
 |str s=>intro h;cases h;exact .str s
 |jN=>intro h;cases h;exact .jN
 |nB=>intro h;cases h;exact .nB
 |slnil full bG cap hf hb=>intro h;cases h;exact .slnil full bG cap hf hb
 |sl full elems b off cq cap val jC jX eo kI gE hV ih=>intro h;cases h;exact(V.sl full elems b off cq cap val jC jX eo kI gE hV).mono eR
 |ip cells b off val gE hV ih=>intro h;cases h;exact(V.ip cells b off val gE hV).mono eR
 |mp id el off r h0=>
  intro h;cases h with
  |r=>exact(V.mp id el off r h0).mono eR
  |o he hc=>rw[<-hc];exact hm.2 _ _ he (.mp _ _ _ r h0)
 |kK id r h0=>intro h;cases h;exact(V.kK id r h0).mono eR
 |ms id bq len cap r addr h0 GI ga ha=>
  intro h;cases h with
  |r=>exact(V.ms id bq len cap r addr h0 GI ga ha).mono eR
  |m hl he=>rw[<-he];exact hm.1 _ _ _ hl (.ms _ _ _ _ _ _ h0 GI ga ha)
 |gO id bq cap bG h0=>
  intro h;cases h with
  |r=>exact .gO _ _ _ _ h0
  |m hl he=>rw[<-he];exact hm.1 _ _ _ hl (.gO _ _ _ _ h0)
 |mc id bq len cap r addr h0 GI ga ha=>intro h;cases h;exact(V.mc id bq len cap r addr h0 GI ga ha).mono eR
 |mE id bq bG=>intro h;cases h;exact .mE _ _ _
end
inductive Sh (id:Nat) (elems:List AV):gM->gM->Prop
 |r (b:gM):Sh id elems b b
 |cells {cq:Nat} {xs ys:List AV} (h:Ap id elems xs ys):Sh id elems (.cells cq xs) (.cells cq ys)
theorem Sh.holds{id:Nat}{elems:List AV}{G G':bS}(eR:ss G G')(hm:(∀bq len v,bq+len<=elems.length->V G (.ms id bq len) v->V G' (.sl false ((elems.drop bq).take len)) v)/\ ∀e v,elems=[e]->V G (.mp id 0 0) v->V G' (.ip e.cells) v)
  {b b':gM} {r:tx} {o:Obj} (h:Sh id elems b b') (hh:Holds G r b' o):Holds G' r b o:=by
 cases h with
 |r=>exact hh.mono eR
 |cells hl=>
  cases hh with
  |cells _ _ cs e eB eo h0 jR kI ga hV=>
   refine .cells _ _ cs e eB eo h0 (λx hx=>?_) (λx hx=>?_) (by rw[hl.length];exact ga) λk x hx=>?_
   ·obtain⟨y,hy,hc⟩:=hl.mem hx;rw[hc.cells.length];grind
   ·obtain⟨y,hy,hc⟩:=hl.de.mem hx;rw[hc.cJ];grind
   ·obtain⟨y,hy,hc⟩:=hl.de.get hx;obtain⟨v,hv,Xe⟩:=hV k y hy;exact⟨v,hv,hc.V eR hm Xe⟩
theorem TQ{P:Program}{N:Nat}{ρ:Option Nat}{Q:Exit->Env->St->Prop}{bf E2:Env}{s S2:St}{c:Code}{id cq:Nat}{elems:List AV}(hg:bn s.heap id=some (.cells cq elems))
  (hE: ∀t x,bn E2 t=some x-> ∃y,bn bf t=some y/\Fz id elems x y) (hS: ∀i b,bn S2.heap i=some b->i≠id/\ ∃b',bn s.heap i=some b'/\Sh id elems b b') (hc:S2.bN=s.bN)
  (hd: ∀i,bn s.heap i=some .gq->bn S2.heap i=some .gq) (h:gY P N ρ c Q E2 S2):gY P N ρ c Q bf s:=λG w a hn=>by
 obtain⟨G',h1,h2,h3⟩:=kw hn.iB (bq:=0) (len:=0) hg (Ds _);have del: ∀{i b},i≠id->bn s.heap i=some b->bn (dZ s.heap id) i=some b:=λ{i b}fG hb=>by
  rw[fO,fN (λe=>fG e.symm)];exact hb
 have TU:eG G' S2 w:=⟨h1.lW,λi b hi=>by
   obtain⟨fG,b',pW,hf⟩:=hS i b hi;rcases h1.heap i b' (del fG pW)with⟨r,o,e1,e2,_⟩|⟨e1,sz,h0,e2⟩
   ·refine .inl ⟨r,o,e1,e2,?_⟩;rcases hn.iB.heap i b' pW with⟨r',o',q1,q2,q3⟩|⟨q1,_,_,q2⟩
    ·rw[h2.le.own _ _ q1]at e1;cases e1;rw[e2]at q2;cases q2;exact hf.holds h2.le h3 q3
    ·rw[h2.stay i (hn.iB.lt _ _ pW) q1]at e1;cases e1
   ·refine .inr ⟨e1,sz,h0,?_⟩;subst e2;cases hf with
    |r=>rfl
    |cells hl=>
     rename_i xs;have:xs=[]:=Py (by simpa using hl.length);rw[this],
  λi i' b b' r r' g1 g2=>by
   obtain⟨n1,c1,k1,_⟩:=hS i b g1;obtain⟨n2,c2,k2,_⟩:=hS i' b' g2;exact h1.apart i i' c1 c2 r r' (del n1 k1) (del n2 k2),
  λi b r o g1=>by
   obtain⟨n1,c1,k1,_⟩:=hS i b g1;exact h1.clear i c1 r o (del n1 k1),
  λi hi=>h1.cj i (by grind),
  λi b g1=>by
   obtain⟨n1,c1,k1,_⟩:=hS i b g1;rw[hc];exact hn.iB.lt i c1 k1⟩
 have MP:Ext G s w G' S2 w:=⟨h2.le,rfl,rfl,rfl,fw _,λ_ _ _=>rfl,h2.jD,h2.iY,λi b g1=>by
   grind,by grind,hd,h2.stay,h2.drawn⟩
 refine gY.later h hn.iB hn.known MP ⟨TU,λt' x hx=>?_,hn.size,hn.mr.ext MP,hn.known.le h2.le⟩;obtain⟨y,hy,hf⟩:=hE t' x hx;obtain⟨q1,q2⟩:=hn.bf _ _ hy;exact⟨q1,hf.V h2.le h3 q2⟩
end Go.Am
end
section
namespace Go.Am
open Go.RowKit
structure Hint where
 k:Nat:=0
 g:Bool:=true
 b:Bool:=false
 x:AV:=.any
 l:List AV:=[]
 n:Nat:=0
 m:Nat:=0
 p:Nat:=0
 q:Nat:=0
 r:Nat:=0
 u:UInt8:=0
 c:Option (AV×St):=none
def fE:List Prop->Prop
 | []=>True
 | [p]=>p
 |p::q::r=>p/\fE (q::r)
theorem eZ{p:Prop}{r:List Prop}:fE (p::r)↔p/\fE r:=by
 cases r with
 |nil=>simp[fE]
 |cons q r=>simp[fE]
theorem eA{a b:List Prop}:fE (a++b)↔fE a/\fE b:=by
 induction a with
 |nil=>simp[fE]
 |cons p r ih=>simp_all[eZ,and_assoc]
abbrev XR:=Option (AV×St×List Prop)
def plain(r:Option (AV×St)):XR:=match r with
 |some (v,s)=>some (v,s,[])
 |none=>none
def eV(o:Option Nat)(n:Nat):Bool:=match o with
 |some k=>Nat.beq k n
 |none=>false
theorem dA{o:Option Nat}{n:Nat}:eV o n=true↔o=some n:=by
 unfold eV
 grind [Nat.beq_eq]
def TW(P:Program)(h:Hint)(t:TypeId)(x i:AV)(s:St):XR:=match i with
 |.int _ n=>match dy P t with
  |some e=>match x with
   |.sl _ elems=>bif eV (cK P e) h.x.cells.length then some (.ip h.x.cells,s,[0<=n,elems[n.toNat]? =some h.x])else none
   |.ms id bq len=>match bn s.heap id with
    |some (.cells cq _)=>bif eV (cK P e) cq then some (.mp id h.n 0,s,[0<=n,n<len,bq+n.toNat=h.n])else none
    |_=>none
   |_=>none
  |none=>match tF P t with
   |some (m,e)=>match cK P e with
    |some sz=>match x with
     |.mp id el off=>bif Nat.blt 8 (m*sz)then none else some (.mp id el h.n,s,[0<=n,n<m,off+n.toNat*sz=h.n])
     |.ip cells=>some (.ip h.l,s,[0<=n,n<m,cells.drop (n.toNat*sz)=h.l])
     |_=>none
    |none=>none
   |none=>none
 |_=>none
theorem Qq{P:Program}{h:Hint}{t:TypeId}{x i v:AV}{s s':St}{jg:List Prop}(hx:TW P h t x i s=some (v,s',jg))(ho:fE jg):eC P t x i s=some v/\s'=s:=by
 unfold TW at hx;split at hx
 case h_2=>cases hx
 unfold eC;split at hx
 ·rename_i e he;simp only[he];split at hx
  ·cases hq:eV (cK P e) h.x.cells.length with
   |false=>grind
   |true=>
    simp only[hq,cP]at hx;cases hx;obtain⟨h1,h2⟩:=ho;simp only[fE]at h2
    grind [dA]
  ·split at hx
   case h_2=>cases hx
   rename_i cq _ hg;cases hq:eV (cK P e) cq with
   |false=>grind
   |true=>
    simp only[hq,cP]at hx;cases hx;obtain⟨h1,h2,h3⟩:=ho;simp only[fE]at h3
    grind [dA]
  ·cases hx
 ·rename_i he;simp only[he];split at hx
  case h_2=>cases hx
  rename_i m e ha;simp only[ha];split at hx
  case h_2=>cases hx
  rename_i sz eB;simp only[eB];split at hx
  ·cases hb:Nat.blt 8 (m*sz)<;>rw[hb]at hx
   ·cases hx;obtain⟨h1,h2,h3⟩:=ho;simp only[fE]at h3
    grind
   ·cases hx
  ·cases hx;obtain⟨h1,h2,h3⟩:=ho;simp only[fE]at h3
   grind
  ·cases hx
def MQ(P:Program)(h:Hint)(t:TypeId)(p:AV)(s:St):XR:=match p with
 |.mp id el off=>match bn s.heap id with
  |some (.cells _ elems)=>bif Nat.beq h.k 1 then(match nE P t (h.x.cells.drop off)with
   |some v=>some (v,s,[elems[el]? =some h.x])
   |none=>none)else match elems[el]?,DC P t with
   |some e,some false=>some (h.x,s,[e.cells[off]? =some h.x])
   |_,_=>none
  |_=>none
 |.ip cells=>match DC P t with
  |some false=>some (h.x,s,[cells.head? =some h.x])
  |_=>none
 |_=>none
theorem yD{P:Program}{t:TypeId}{cs:List AV}{off:Nat}{x:AV}(ht:DC P t=some false)(h:cs[off]? =some x):nE P t (cs.drop off)=some x:=by
 unfold nE
 grind [List.drop_eq_getElem_cons]
theorem MR{P:Program}{h:Hint}{t:TypeId}{p v:AV}{s s':St}{jg:List Prop}(hx:MQ P h t p s=some (v,s',jg))(ho:fE jg):nG P t p s=some v/\s'=s:=by
 unfold MQ at hx;unfold nG;split at hx
 ·split at hx
  case h_2=>cases hx
  rename_i id el off _ cq elems hg;cases hk:Nat.beq h.k 1 with
  |true=>
   simp only[hk,cP]at hx;split at hx
   case h_2=>cases hx
   rename_i v0 hr;cases hx;have ho:elems[el]? =some h.x:=ho;simp[kM,hg,ho,hr]
  |false=>
   simp only[hk,dv]at hx;split at hx
   case h_2=>cases hx
   rename_i e he ht;cases hx;have ho:e.cells[off]? =some h.x:=ho;simp[kM,hg,he,yD ht ho]
 ·rename_i cells;split at hx
  case h_2=>cases hx
  rename_i ht;cases hx;have ho:cells.head? =some h.x:=ho;have:=yD (cs:=cells) (off:=0) ht (by rw[<-ho];cases cells<;>rfl);simpa[kM]using this
 ·cases hx
def GJ(P:Program)(h:Hint)(t:TypeId)(p v:AV)(s:St):XR:=match p with
 |.mp id el off=>match bn s.heap id with
  |some (.cells cq elems)=>bif eV (cK P t) v.cells.length&&v.cells.all AV.cJ then
   some (.any,⟨dM s.heap id (.cells cq h.l),s.bN⟩,[elems[el]? =some h.x,off+v.cells.length<=h.x.cells.length,elems.set el (oT h.x (jq h.x.cells off v.cells))=h.l])else none
  |_=>none
 |_=>none
theorem Kz{P:Program}{h:Hint}{t:TypeId}{p x v:AV}{s s':St}{jg:List Prop}(hx:GJ P h t p x s=some (v,s',jg))(ho:fE jg):sF P t p x s=some s'/\v=.any:=by
 unfold GJ at hx;split at hx
 case h_2=>cases hx
 rename_i id el off;split at hx
 case h_2=>cases hx
 rename_i cq elems hg;cases hq:eV (cK P t) x.cells.length&&x.cells.all AV.cJ with
 |false=>grind
 |true=>
  simp only[hq,cP]at hx;cases hx;obtain⟨h1,h2,h3⟩:=ho;simp only[eU]at hq;unfold sF;simp only[hg,h1];simp only[fE]at h3;simp_all[dA]
def TY(P:Program)(h:Hint)(t:TypeId)(x:AV)(s:St):XR:=match x with
 |.sl _ elems=>bif (dy P t).isSome then some (.int .i64 h.n,s,[elems.length=h.n])else none
 |_=>none
theorem Qr{P:Program}{h:Hint}{t:TypeId}{x v:AV}{s s':St}{jg:List Prop}(hx:TY P h t x s=some (v,s',jg))(ho:fE jg):wW P t x=some v/\s'=s:=by
 unfold TY at hx;split at hx
 case h_2=>cases hx
 rename_i fl elems;cases hq:(dy P t).isSome with
 |false=>grind
 |true=>
  simp only[hq,cP]at hx;cases hx;have ho:elems.length=h.n:=ho;simp[wW,hq,ho]
def MS(P:Program)(e:TypeId)(u:TypeId)(y:AV)(s:St):Option (List AV×List Prop):=match y with
 |.sl _ l=>bif (dy P u).isSome then some (l,[fits P e l])else none
 |.ms id bq len=>match bn s.heap id with
  |some (.cells cq elems)=>bif eV (cK P e) cq&&(dy P u).isSome then some ((elems.drop bq).take len,[bq+len<=elems.length])else none
  |_=>none
 |_=>none
def Cm(P:Program)(h:Hint)(t u:TypeId)(x y:AV)(s:St):XR:=match dy P t with
 |some e=>match cK P e,mn P e with
  |some sz,some vp=>bif Nat.blt 0 sz&&Nat.ble vp 4096&&nO P e sz then
    match MS P e u y s with
    |some (new,o)=>bif Nat.beq h.k 2 then(match x with
      |.sl _ _=>some (x,s,(new=[])::o)
      |.ms _ _ _=>some (x,s,(new=[])::o)
      |_=>none)else
     match x with
     |.sl full elems=>some (.ms s.bN 0 h.n,⟨(s.bN,.cells sz h.l)::s.heap,s.bN+1⟩,(new≠[])::(full=true)::(elems.length+new.length<=bc)::(fits P e elems)::(elems.length+new.length=h.n)::(elems++new=h.l)::o)
     |.ms id bq len=>match bn s.heap id with
      |some (.cells cq elems)=>bif Nat.beq cq sz then some (.ms s.bN 0 h.n,⟨(s.bN,.cells sz h.l)::dZ s.heap id,s.bN+1⟩,
       (new≠[])::(bq+len<=elems.length)::(len+new.length<=bc)::(len+new.length=h.n)::((elems.drop bq).take len++new=h.l)::o)else none
      |_=>none
     |_=>none
    |none=>none
   else none
  |_,_=>none
 |none=>none
theorem ua{P:Program}{e u:TypeId}{y:AV}{s:St}{l:List AV}{o:List Prop}(h:MS P e u y s=some (l,o))(ho:fE o):fk y s=some l/\jS P e y s/\(dy P u).isSome=true/\y.isInt=false:=by
 unfold MS at h;split at h
 ·rename_i fl elems;cases hq:(dy P u).isSome with
  |false=>grind
  |true=>
   simp only[hq,cP]at h;cases h;exact⟨rfl,ho,rfl,rfl⟩
 ·split at h
  case h_2=>cases h
  rename_i cq elems hg;cases hq:eV (cK P e) cq&&(dy P u).isSome with
  |false=>grind
  |true=>
   simp only[hq,cP]at h;cases h;simp only[eU]at hq;have ho:_<=_:=ho;exact⟨by simp[fk,hg,ho],by simp[jS,hg,dA.1 hq.1],hq.2,rfl⟩
 ·cases h
theorem GK{P:Program}{h:Hint}{t u:TypeId}{x y v:AV}{s s':St}{jg:List Prop}(hx:Cm P h t u x y s=some (v,s',jg))(ho:fE jg):
  ∃e new,dy P t=some e/\fk y s=some new/\jS P e y s/\(dy P u).isSome=true/\y.isInt=false/\eX P t x new s=some (v,s'):=by
 unfold Cm at hx;split at hx
 case h_2=>cases hx
 rename_i e he;split at hx
 case h_2=>cases hx
 rename_i sz vp eB Kg;cases hq:Nat.blt 0 sz&&Nat.ble vp 4096&&nO P e sz with
 |false=>grind
 |true=>
  simp only[hq,cP]at hx;simp only[eU,tv,Gg]at hq;split at hx
  case h_2=>cases hx
  rename_i new o hn;cases hk:Nat.beq h.k 2 with
  |true=>
   simp only[hk,cP]at hx;split at hx
   case h_3=>cases hx
   all_goals
    cases hx;obtain⟨h1,h2⟩:=eZ.1 ho;obtain⟨n1,n2,n3,n4⟩:=ua hn h2;refine⟨e,new,he,n1,n2,n3,n4,?_⟩;subst h1;unfold eX
    grind
  |false=>
   simp only[hk,dv]at hx;split at hx
   ·cases hx;obtain⟨h1,h2,h3,h4,h5,h6,h7⟩:=by simpa only[eZ]using ho
    obtain⟨n1,n2,n3,n4⟩:=ua hn h7;refine⟨e,new,he,n1,n2,n3,n4,?_⟩;unfold eX
    grind
   ·split at hx
    case h_2=>cases hx
    rename_i cq elems hg;cases hz:Nat.beq cq sz with
    |false=>grind
    |true=>
     simp only[hz,cP]at hx;cases hx;obtain⟨h1,h2,h3,h4,h5,h7⟩:=by simpa only[eZ]using ho
     obtain⟨n1,n2,n3,n4⟩:=ua hn h7;refine⟨e,new,he,n1,n2,n3,n4,?_⟩;unfold eX;simp_all
   ·cases hx
end Go.Am
end
