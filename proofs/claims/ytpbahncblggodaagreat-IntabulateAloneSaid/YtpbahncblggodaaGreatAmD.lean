/-
  The logic AM, D: rules for generated walks, states under new names, frames, hints.
  Own work. No Go text.
-/
import Derived.Test.YtpbahncblggodaaGreatAmC
set_option linter.all false
section
namespace Go.Am
open Go.RowKit
theorem eset_self{β:Type}: ∀{l:List (Nat×β)}{i:Nat}{x:β},eget l i=some x->eset l i x=l
 | [],_,_,h=>by simp[egetN,egetC]at h
 |(k,y)::r,i,x,h=>by
  simp only[egetN,egetC]at h
  simp only[esetN,esetC]
  split at h
  ·rename_i e;subst e;cases h;simp
  ·rename_i e;rw[if_neg e,eset_self h]
def gwq(g:Option (Nat×Bool))(env:Env)(A B:Env->Prop):Prop:=match g with
 |none=>A env
 |some (d,want)=>match eget env d with
  |some (.bool b)=>(b=want->A (eset env d (.bool want)))/\(b=!want->B (eset env d (.bool (!want))))
  |some (.tup [])=>B env
  |_=>False
theorem gwq_gws{g:Option (Nat×Bool)}{env:Env}{A B:Env->Prop}{A' B':Prop}(h:gwq g env A B)(ha:A env->A')(hb:B env->B'):gws g env A' B':=by
 unfold gwq at h
 unfold gws
 split at h
 ·exact ha h
 ·split at h
  ·rename_i b he
   simp only[he]
   refine⟨λe=>ha ?_,λe=>hb ?_⟩
   ·have:=h.1 e
    subst e
    rwa[eset_self he]at this
   ·have:=h.2 e
    subst e
    rwa[eset_self he]at this
  ·rename_i he
   simp only[he]
   exact hb h
  ·cases h
theorem ows_mono{P:Program}{op:Op}{K K':AV->St->Prop}{env:Env}{s:St}(h:ows P op K env s)(hk: ∀v s',K v s'->K' v s'):ows P op K' env s:=by
 unfold ows at h ⊢
 split at h
 ·split at h
  ·exact⟨h.1,h.2.mono hk⟩
  ·exact h.mono hk
  ·cases h
 ·split at h
  ·exact hk _ _ h
  ·cases h
def rwq(P:Program)(K:Env->St->Prop):List Ins->Env->St->Prop
 | [],env,s=>K env s
 |i::r,env,s=>gwq i.guard env (λenv=>ows P i.op (λv s'=>rwq P K r (eput i.dst v env) s') env s) (λenv=>rwq P K r (eput i.dst (.tup []) env) s)
theorem rwq_rws{P:Program}{K:Env->St->Prop}: ∀{l:List Ins}{env:Env}{s:St},rwq P K l env s->rws P K l env s
 | [],_,_,h=>h
 |_::_,_,_,h=>gwq_gws h (λh=>ows_mono h λ_ _ h=>rwq_rws h) (λh=>rwq_rws h)
def dwq(P:Program)(l:List Oper)(K:Env->St->Prop):List Step->List (Nat×Env×AV)->Env->St->Prop
 | [],_,env,s=>K env s
 |.light i note::r,tr,env,s=>match l[i]? with
  |some o=>gwq (insOf l o).guard env (λenv=>match aop P o.op (envOf (slotsI o) env) s with
    |some (v,_)=>dwq P l K r (if note then(i,envOf (slotsI o) env,v)::tr else tr) (eput o.dst v env) s
    |none=>False) (λenv=>dwq P l K r tr (eput o.dst (.tup []) env) s)
  |none=>False
 |.heavy i chk::r,tr,env,s=>match l[i]? with
  |some o=>gwq (insOf l o).guard env (λenv=>ows P o.op (λv s'=>chkAll P l tr s' chk/\dwq P l K r tr (eput o.dst v env) s') (envOf (slotsI o) env) s) (λenv=>dwq P l K r tr (eput o.dst (.tup []) env) s)
  |none=>False
 |.alloc i::r,tr,env,s=>match l[i]? with
  |some o=>match aop P o.op [] s with
   |some (v,s')=>dwq P l K r tr (eput o.dst v env) s'
   |none=>False
  |none=>False
theorem dwq_dws{P:Program}{l:List Oper}{K:Env->St->Prop}: ∀{steps:List Step}{tr:List (Nat×Env×AV)}{env:Env}{s:St},dwq P l K steps tr env s->dws P l K steps tr env s
 | [],_,_,_,h=>h
 |.light i note::r,tr,env,s,h=>by
  simp only[dwq]at h
  simp only[dws]
  split at h
  ·rename_i o ho
   simp only[ho]
   refine gwq_gws h (λh=>?_) (λh=>dwq_dws h)
   split at h
   ·rename_i v s' hx
    simp only[hx]
    exact dwq_dws h
   ·cases h
  ·cases h
 |.heavy i chk::r,tr,env,s,h=>by
  simp only[dwq]at h
  simp only[dws]
  split at h
  ·rename_i o ho
   simp only[ho]
   exact gwq_gws h (λh=>ows_mono h λ_ _ h=>⟨h.1,dwq_dws h.2⟩) (λh=>dwq_dws h)
  ·cases h
 |.alloc i::r,tr,env,s,h=>by
  simp only[dwq]at h
  simp only[dws]
  split at h
  ·rename_i o ho
   simp only[ho]
   split at h
   ·rename_i v s' hx
    simp only[hx]
    exact dwq_dws h
   ·cases h
  ·cases h
structure DI where
 st:Step
 ins:Option Ins
 slots:List Nat
def mkD0(l:List Oper):List Step->List DI
 | []=>[]
 |st::r=>⟨st,(l[st.idx]?).map (insOf l),(match l[st.idx]? with|some o=>slotsI o|none=>[])⟩::mkD0 l r
def findD:List (Nat×Op×Env×AV)->Nat->Option (Op×Env×AV)
 | [],_=>none
 |(k,x)::r,i=>if k=i then some x else findD r i
def chkD(P:Program)(tr:List (Nat×Op×Env×AV))(s:St):List Nat->Prop
 | []=>True
 |j::r=>(match findD tr j with
  |some (op,e,v)=>aop P op e s=some (v,s)
  |none=>True)/\chkD P tr s r
def dq(P:Program)(K:Env->St->Prop):List DI->List (Nat×Op×Env×AV)->Env->St->Prop
 | [],_,env,s=>K env s
 |⟨.light i note,some n,sl⟩::r,tr,env,s=>gwq n.guard env (λenv=>match aop P n.op (envOf sl env) s with
   |some (v,_)=>dq P K r (if note then(i,n.op,envOf sl env,v)::tr else tr) (eput n.dst v env) s
   |none=>False) (λenv=>dq P K r tr (eput n.dst (.tup []) env) s)
 |⟨.heavy _ chk,some n,sl⟩::r,tr,env,s=>gwq n.guard env (λenv=>ows P n.op (λv s'=>chkD P tr s' chk/\dq P K r tr (eput n.dst v env) s') (envOf sl env) s) (λenv=>dq P K r tr (eput n.dst (.tup []) env) s)
 |⟨.alloc _,some n,_⟩::r,tr,env,s=>match aop P n.op [] s with
  |some (v,s')=>dq P K r tr (eput n.dst v env) s'
  |none=>False
 |⟨_,none,_⟩::_,_,_,_=>False
def opAt(l:List Oper)(i:Nat):Op:=match l[i]? with
 |some o=>o.op
 |none=>.move (.const undef)
def trD(l:List Oper)(tr:List (Nat×Env×AV)):List (Nat×Op×Env×AV):=tr.map λp=>(p.1,opAt l p.1,p.2.1,p.2.2)
theorem findD_tr(l:List Oper): ∀(tr:List (Nat×Env×AV))(j:Nat),findD (trD l tr) j=(findT tr j).map λp=>(opAt l j,p.1,p.2)
 | [],j=>rfl
 |(k,e,v)::r,j=>by
  have ih:=findD_tr l r j
  unfold trD at ih
  simp only[trD,List.map_cons,findD,findT]
  split
  ·rename_i h;subst h;rfl
  ·exact ih
theorem chkD_all{P:Program}{l:List Oper}{tr:List (Nat×Env×AV)}{s:St}: ∀{chk:List Nat},chkD P (trD l tr) s chk->chkAll P l tr s chk
 | [],_=>trivial
 |j::r,⟨h1,h2⟩=>by
  refine⟨?_,chkD_all h2⟩
  rw[findD_tr]at h1
  split
  ·rename_i e v o hf hl
   simp only[hf,Option.map_some,opAt,hl]at h1
   exact h1
  ·trivial
theorem dq_dwq{P:Program}{l:List Oper}{K:Env->St->Prop}: ∀{steps:List Step}{tr:List (Nat×Env×AV)}{env:Env}{s:St},dq P K (mkD0 l steps) (trD l tr) env s->dwq P l K steps tr env s
 | [],_,_,_,h=>h
 |st::r,tr,env,s,h=>by
  simp only[mkD0]at h
  cases ho:l[st.idx]? with
  |none=>
   simp only[ho,Option.map_none]at h
   cases st<;>exact h.elim
  |some o=>
   simp only[ho,Option.map_some]at h
   cases st with
   |light i note=>
    simp only[Step.idx]at ho
    simp only[dq]at h
    simp only[dwq,ho]
    have key: ∀{env:Env},(match aop P (insOf l o).op (envOf (slotsI o) env) s with
      |some (v,_)=>dq P K (mkD0 l r) (if note then(i,(insOf l o).op,envOf (slotsI o) env,v)::trD l tr else trD l tr) (eput (insOf l o).dst v env) s
      |none=>False)->(match aop P o.op (envOf (slotsI o) env) s with
      |some (v,_)=>dwq P l K r (if note then(i,envOf (slotsI o) env,v)::tr else tr) (eput o.dst v env) s
      |none=>False):=λh=>by
     have e:(insOf l o).op=o.op:=rfl
     rw[e]at h
     split at h
     ·rename_i v s1 hv
      try simp only[hv]
      refine dq_dwq ?_
      cases note
      ·exact h
      ·simp only[if_true]at h ⊢
       have: ∀e,trD l ((i,e,v)::tr)=(i,o.op,e,v)::trD l tr:=λe=>by simp[trD,opAt,ho]
       rw[this];exact h
     ·cases h
    unfold gwq at h ⊢
    split at h
    ·exact key h
    ·split at h
     ·exact⟨λe=>key (h.1 e),λe=>dq_dwq (h.2 e)⟩
     ·exact dq_dwq h
     ·cases h
   |heavy i chk=>
    simp only[Step.idx]at ho
    simp only[dq]at h
    simp only[dwq,ho]
    unfold gwq at h ⊢
    split at h
    ·exact ows_mono h λ_ _ h=>⟨chkD_all h.1,dq_dwq h.2⟩
    ·split at h
     ·exact⟨λe=>ows_mono (h.1 e) λ_ _ h=>⟨chkD_all h.1,dq_dwq h.2⟩,λe=>dq_dwq (h.2 e)⟩
     ·exact dq_dwq h
     ·cases h
   |alloc i=>
    simp only[Step.idx]at ho
    simp only[dq]at h
    simp only[dwq,ho]
    split at h
    ·rename_i v s' hv
     have hv':aop P o.op [] s=some (v,s'):=hv
     rw[hv']
     exact dq_dwq h
    ·cases h
def slotsOp(op:Op):List Nat:=op.operands.toList.flatMap slotO
def mkD(I:List Ins):List Step->List DI
 | []=>[]
 |st::r=>⟨st,I[st.idx]?,(match I[st.idx]? with|some n=>slotsOp n.op|none=>[])⟩::mkD I r
theorem mkD_eq(l:List Oper): ∀steps,mkD (ins l) steps=mkD0 l steps
 | []=>rfl
 |st::r=>by
  have e:(ins l)[st.idx]? =(l[st.idx]?).map (insOf l):=by unfold ins;rw[List.getElem?_map]
  simp only[mkD,mkD0,mkD_eq l r,e]
  cases l[st.idx]?<;>rfl
def rz(P:Program)(K:Env->St->Prop):List Ins->Env->St->Prop
 | [],env,s=>K env s
 |i::r,env,s=>gwq i.guard env (λenv=>ows P i.op (λv s'=>rz P K r (eput i.dst v env) s') env s) (λenv=>rz P K r (eput i.dst (.tup []) env) s)
theorem rz_eq{P:Program}{K:Env->St->Prop}: ∀{l:List Ins}{env:Env}{s:St},rz P K l env s->rwq P K l env s
 | [],_,_,h=>h
 |i::r,env,s,h=>by
  simp only[rz]at h
  simp only[rwq]
  unfold gwq at h ⊢
  split at h
  ·exact ows_mono h λ_ _ h=>rz_eq h
  ·split at h
   ·exact⟨λe=>ows_mono (h.1 e) λ_ _ h=>rz_eq h,λe=>rz_eq (h.2 e)⟩
   ·exact rz_eq h
   ·cases h
section
variable {P:Program} {K:Env->St->Prop} {d:Option Nat} {op:Op} {r:List Ins} {env:Env} {s:St} {t:Nat} {w:Bool}
end
def dz(P:Program)(K:Env->St->Prop):List DI->List (Nat×Op×Env×AV)->Env->St->Prop:=dq P K
section
variable {P:Program} {K:Env->St->Prop} {d:Option Nat} {op:Op} {r:List DI} {env:Env} {s:St} {t:Nat} {w:Bool} {i:Nat} {note:Bool} {sl chk:List Nat} {tr:List (Nat×Op×Env×AV)} {st:Step}
end
section
variable {P:Program} {N:Nat} {ρ:Option Nat} {Q:Exit->Env->St->Prop} {env:Env} {s:St} {c:Code}
theorem awp_re{id:Nat}{ops:Array Oper}(hc:c=.region id ops false)(hg:guardsOk ops.toList=true)(hd:dstsOk N ops.toList=true)
  (h:rz P (λenv s=>Q .normal env s) (ins ops.toList) env s):AWp P N ρ c Q env s:=by
 subst hc
 exact awp_reg (K:=λenv s=>Q .normal env s) ops.toList rfl hg hd (rwq_rws (rz_eq h))
theorem awp_de{id:Nat}{ops:Array Oper}{pre:List (List Nat)}{steps:List Step}(hc:c=.region id ops true)(hp:PlanOk P N ops.toList pre steps)(hm:P.follows .mixedOrders=true)
  (h:dz P (λenv s=>Q .normal env s) (mkD (ins ops.toList) steps) [] env s):AWp P N ρ c Q env s:=by
 subst hc
 exact awp_draw pre steps ops.toList rfl hm hp (dwq_dws (dq_dwq (tr:=[]) (by rw[mkD_eq]at h;exact h)))
end
theorem Less.self{s:St}(h: ∀id,eget s.heap id≠some .dfr):Less s s:=⟨λid b hg=>⟨hg,λe=>by subst e;exact h id hg⟩,Nat.le_refl _⟩
def isDfr:Blk->Bool
 |.dfr=>true
 |.cells _ _=>false
 |.loop _=>false
def noDfr:List (Nat×Blk)->Bool
 | []=>true
 |(_,b)::r=>!isDfr b&&noDfr r
theorem noDfr_iff: ∀{l:List (Nat×Blk)},noDfr l=true-> ∀id,eget l id≠some .dfr
 | [],_,id,h=>by simp[egetN,egetC]at h
 |(k,b)::r,hn,id,h=>by
  simp only[egetN,egetC]at h
  split at h
  ·cases h;simp[noDfr,isDfr]at hn
  ·simp only[noDfr,Bool.and_eq_true]at hn
   exact noDfr_iff hn.2 id h
theorem finS{P:Program}{rs:Array ResultVar}{K:AV->St->Prop}{env:Env}{s:St}{x:AV}(hx:aResults P rs env s=some x)(hd:noDfr s.heap=true)(hk:K x s):FinQ P rs K .ret env s:=
 ⟨x,s,hx,Less.self (noDfr_iff hd),hk⟩
theorem w64{n:Int}(h1: -9223372036854775808<=n)(h2:n<=9223372036854775807):IntKind.i64.wrap n=n:=by rw[IntKind.wrap_i64];omega
theorem eget_mem{β:Type}: ∀{l:List (Nat×β)}{i:Nat}{x:β},eget l i=some x->(i,x)∈l
 | [],i,x,h=>by simp[egetN,egetC]at h
 |(k,y)::r,i,x,h=>by
  simp only[egetN,egetC]at h
  split at h
  ·rename_i e;subst e;cases h;simp
  ·exact List.mem_cons_of_mem _ (eget_mem h)
section
@[simp] theorem cells_agg(l:List AV):(AV.agg l).cells=l:=rfl
@[simp] theorem cells_int(k:IntKind)(n:Int):(AV.int k n).cells=[.int k n]:=rfl
@[simp] theorem cells_bool(b:Bool):(AV.bool b).cells=[.bool b]:=rfl
@[simp] theorem cells_str(b:ByteArray):(AV.str b).cells=[.str b]:=rfl
@[simp] theorem cells_sl(b:Bool)(l:List AV):(AV.sl b l).cells=[.sl b l]:=rfl
@[simp] theorem cells_ms(i a b:Nat):(AV.ms i a b).cells=[.ms i a b]:=rfl
@[simp] theorem cells_mp(i a b:Nat):(AV.mp i a b).cells=[.mp i a b]:=rfl
@[simp] theorem cells_nilp:AV.nilp.cells=[.nilp]:=rfl
@[simp] theorem cells_nilf:AV.nilf.cells=[.nilf]:=rfl
@[simp] theorem cells_fn(f:FuncId)(l:List AV):(AV.fn f l).cells=[.fn f l]:=rfl
@[simp] theorem scalar_agg(l:List AV):(AV.agg l).scalar=false:=rfl
@[simp] theorem scalar_int(k:IntKind)(n:Int):(AV.int k n).scalar=true:=rfl
@[simp] theorem scalar_bool(b:Bool):(AV.bool b).scalar=true:=rfl
@[simp] theorem scalar_str(b:ByteArray):(AV.str b).scalar=true:=rfl
@[simp] theorem scalar_sl(b:Bool)(l:List AV):(AV.sl b l).scalar=true:=rfl
@[simp] theorem scalar_ms(i a b:Nat):(AV.ms i a b).scalar=true:=rfl
@[simp] theorem scalar_mp(i a b:Nat):(AV.mp i a b).scalar=true:=rfl
@[simp] theorem scalar_nilp:AV.nilp.scalar=true:=rfl
@[simp] theorem scalar_nilf:AV.nilf.scalar=true:=rfl
@[simp] theorem scalar_fn(f:FuncId)(l:List AV):(AV.fn f l).scalar=true:=rfl
end
theorem envOf_cons(t:Nat)(r:List Nat)(env:Env):envOf (t::r) env=(match eget env t with
  |some x=>(t,x)::envOf r env
  |none=>envOf r env):=by
 simp only[envOf,List.filterMap_cons]
 cases eget env t<;>rfl
end Go.Am
end
section
namespace Go.Am
open Go.RowKit
mutual
inductive Co (ok:Nat->Bool) (π:Nat->Nat):AV->AV->Prop
 |c {x:AV} (h:x.clean=true):Co ok π x x
 |s {b:Bool} {l:List AV} (h:cleanL l=true):Co ok π (.sl false l) (.sl b l)
 |l {b:Bool} {xs ys:List AV} (h:CoL ok π xs ys):Co ok π (.sl false xs) (.sl b ys)
 |n {id a:Nat}:Co ok π (.ms id a 0) (.sl true [])
 |mp {id id' el off:Nat} (h:ok id=true) (h':π id=id'):Co ok π (.mp id el off) (.mp id' el off)
 |y {id id':Nat} (h:ok id=true) (h':π id=id'):Co ok π (.yld id) (.yld id')
 |ms {id id' a b:Nat} (h:ok id=true) (h':π id=id'):Co ok π (.ms id a b) (.ms id' a b)
 |mc {id id' a b c:Nat} (h:ok id=true) (h':π id=id'):Co ok π (.mc id a b c) (.mc id' a b c)
 |mf {id id' a b b' c:Nat} (h:ok id=true) (h':π id=id') (hb:b=b'):Co ok π (.ms id a b) (.mc id' a b' c)
 |e {id id' a b b':Nat} (h:ok id=true) (h':π id=id') (hb:b=b'):Co ok π (.ms id a b) (.ms id' a b')
 |a {xs ys:List AV} (h:CoL ok π xs ys):Co ok π (.agg xs) (.agg ys)
 |t {xs ys:List AV} (h:CoL ok π xs ys):Co ok π (.tup xs) (.tup ys)
 |f {g:FuncId} {xs ys:List AV} (h:CoL ok π xs ys):Co ok π (.fn g xs) (.fn g ys)
inductive CoL (ok:Nat->Bool) (π:Nat->Nat):List AV->List AV->Prop
 |z:CoL ok π [] []
 |k {x y:AV} {xs ys:List AV} (h:Co ok π x y) (hs:CoL ok π xs ys):CoL ok π (x::xs) (y::ys)
 |r {xs:List AV} (h:cleanL xs=true):CoL ok π xs xs
 |p {xs ys xs' ys':List AV} (h:CoL ok π xs ys) (h':CoL ok π xs' ys'):CoL ok π (xs++xs') (ys++ys')
end
inductive CoB (ok:Nat->Bool) (π:Nat->Nat):Blk->Blk->Prop
 |cells {esz:Nat} {xs ys:List AV} (h:CoL ok π xs ys):CoB ok π (.cells esz xs) (.cells esz ys)
 |cut {esz:Nat} {xs ys zs:List AV} (h:CoL ok π xs ys):CoB ok π (.cells esz xs) (.cells esz (ys++zs))
 |dfr:CoB ok π .dfr .dfr
 |loop {ks:List Nat} {xs ys:List AV} {N:Nat} {ps:List Tmp} {a b:Code} {st:LoopState} {pd:Option Code} (h:CoL ok π xs ys):CoB ok π (.loop ⟨zipE ks xs,N,ps,a,b,st,pd⟩) (.loop ⟨zipE ks ys,N,ps,a,b,st,pd⟩)
theorem cleanL_get{l:List AV}(h:cleanL l=true){i:Nat}{x:AV}(hx:l[i]? =some x):x.clean=true:=cleanL_iff.1 h x (List.mem_of_getElem? hx)
section
variable {ok:Nat->Bool} {π:Nat->Nat} {G G':Ghost}
theorem CoL.length: ∀{xs ys:List AV},CoL ok π xs ys->xs.length=ys.length
 |_,_,.z=>rfl
 |_,_,.k _ hs=>by simp[hs.length]
 |_,_,.r _=>rfl
 |_,_,.p h h'=>by simp[h.length,h'.length]
theorem CoL.get: ∀{xs ys:List AV},CoL ok π xs ys-> ∀{i:Nat}{x:AV},xs[i]? =some x-> ∃y,ys[i]? =some y/\Co ok π x y
 |_,_,.z,i,x,h=>by simp at h
 |_,_,.k h0 hs,i,x,h=>by
  cases i with
  |zero=>simp at h;subst h;exact⟨_,rfl,h0⟩
  |succ i=>exact hs.get (by simpa using h)
 |_,_,.r hc,i,x,h=>⟨x,h,.c (cleanL_get hc h)⟩
 |_,_,.p (xs:=xs) (ys:=ys) (xs':=xs') (ys':=ys') h1 h2,i,x,h=>by
  have hl:=h1.length
  by_cases hi:i<xs.length
  ·rw[List.getElem?_append_left hi]at h
   obtain⟨y,hy,hc⟩:=h1.get h
   exact⟨y,by rw[List.getElem?_append_left (by omega)];exact hy,hc⟩
  ·rw[List.getElem?_append_right (by omega)]at h
   obtain⟨y,hy,hc⟩:=h2.get h
   exact⟨y,by rw[List.getElem?_append_right (by omega),<-hl];exact hy,hc⟩
structure Seen (ok:Nat->Bool) (π:Nat->Nat) (G G':Ghost):Prop where
 imm: ∀b o v,G.imm b o=some v->G'.imm b o=some v
 own: ∀id r,ok id=true->G.own (π id)=some r->G'.own id=some r
theorem Co.cells{x y:AV}(h:Co ok π x y):CoL ok π x.cells y.cells:=by
 have one: ∀{x y:AV},x.cells=[x]->y.cells=[y]->Co ok π x y->CoL ok π x.cells y.cells:=λh1 h2 h=>by rw[h1,h2];exact .k h .z
 cases h with
 |c hc=>exact .r (cleanL_iff.2 (clean_cells hc))
 |s hc=>exact one rfl rfl (.s hc)
 |l hc=>exact one rfl rfl (.l hc)
 |n=>exact one rfl rfl .n
 |mp h h'=>exact one rfl rfl (.mp h h')
 |y h h'=>exact one rfl rfl (.y h h')
 |ms h h'=>exact one rfl rfl (.ms h h')
 |mc h h'=>exact one rfl rfl (.mc h h')
 |mf h h' hb=>exact one rfl rfl (.mf h h' hb)
 |e h h' hb=>exact one rfl rfl (.e h h' hb)
 |a h=>exact h
 |t h=>exact one rfl rfl (.t h)
 |f h=>exact one rfl rfl (.f h)
theorem Co.scalar{x y:AV}(h:Co ok π x y):x.scalar=y.scalar:=by cases h<;>rfl
theorem CoL.flat: ∀{xs ys:List AV},CoL ok π xs ys->CoL ok π (flat xs) (flat ys)
 |_,_,.z=>.z
 |_,_,.k h hs=>by rw[flat_cons,flat_cons];exact .p h.cells hs.flat
 |_,_,.r hc=>.r (cleanL_iff.2 λy hy=>by
  rw[Go.Am.flat,List.mem_flatMap]at hy
  obtain⟨e,he,hx⟩:=hy
  exact clean_cells (cleanL_iff.1 hc e he) y hx)
 |_,_,.p h h'=>by rw[flat_append,flat_append];exact .p h.flat h'.flat
theorem CoL.mem{xs ys:List AV}(h:CoL ok π xs ys){x:AV}(hx:x∈xs): ∃y∈ys,Co ok π x y:=by
 obtain⟨i,hi,rfl⟩:=List.getElem_of_mem hx
 obtain⟨y,hy,hc⟩:=h.get (List.getElem?_eq_getElem hi)
 exact⟨y,List.mem_of_getElem? hy,hc⟩
theorem Co.V(hG:Seen ok π G G'){x y:AV}{v:Value}(hv:V G y v):Co ok π x y->V G' x v:=by
 induction hv generalizing x with
 |any v=>intro h;cases h;exact .any _
 |bool b=>intro h;cases h<;>exact .bool b
 |int k n=>intro h;cases h<;>exact .int k n
 |str s=>intro h;cases h<;>exact .str s
 |nilp=>intro h;cases h<;>exact .nilp
 |nilf=>intro h;cases h<;>exact .nilf
 |slnil full base cap hf hb=>
  intro h
  cases h with
  |c=>exact .slnil full base cap hf hb
  |s=>exact .slnil false base cap (λe=>by cases e) hb
  |l hl=>
   rename_i xs
   have:xs=[]:=List.eq_nil_of_length_eq_zero (by simpa using hl.length)
   subst this
   exact .slnil false base cap (λe=>by cases e) hb
  |n=>exact .msnil _ _ _ _ (hf rfl)
 |sl full elems b off esz cap val hcap hfull hesz hsc himm hV ih=>
  intro h
  cases h with
  |c hc=>exact .sl full elems b off esz cap val hcap hfull hesz hsc (λk hk=>hG.imm _ _ _ (himm k hk)) λk x hx=>(hV k x hx).clean hG.imm (by
    have hc:cleanL elems=true:=by simpa[AV.clean]using hc
    have hm:x∈flat elems:=List.mem_of_getElem? hx
    rw[flat,List.mem_flatMap]at hm
    obtain⟨e,he,hx⟩:=hm
    exact clean_cells (cleanL_iff.1 hc e he) x hx)
  |s hc=>exact .sl false elems b off esz cap val hcap (λe=>by cases e) hesz hsc (λk hk=>hG.imm _ _ _ (himm k hk)) λk x hx=>(hV k x hx).clean hG.imm (by
    have hm:x∈flat elems:=List.mem_of_getElem? hx
    rw[flat,List.mem_flatMap]at hm
    obtain⟨e,he,hx⟩:=hm
    exact clean_cells (cleanL_iff.1 hc e he) x hx)
  |l hl=>
   rw[<-hl.length]
   exact .sl false _ b off esz cap val (by rw[hl.length];exact hcap) (λe=>by cases e) (λx hx=>by
     obtain⟨y,hy,hc⟩:=hl.mem hx
     rw[hc.cells.length];exact hesz y hy) (λx hx=>by
     obtain⟨y,hy,hc⟩:=hl.flat.mem hx
     rw[hc.scalar];exact hsc y hy) (λk hk=>hG.imm _ _ _ (himm k (by rw[<-hl.length];exact hk))) λk x hx=>by
     obtain⟨y,hy,hc⟩:=hl.flat.get hx
     exact ih k y hy hc
  |n=>exact .msnil _ _ _ _ (by have:=hfull rfl;simpa using this)
 |ip cells b off val himm hV ih=>
  intro h
  cases h with
  |c hc=>exact .ip cells b off val (λk hk=>hG.imm _ _ _ (himm k hk)) λk x hx=>(hV k x hx).clean hG.imm (cleanL_get (by simpa[AV.clean]using hc) hx)
 |mp id el off r h0=>
  intro h
  cases h with
  |c hc=>cases hc
  |mp ho hp=>subst hp;exact .mp _ _ _ r (hG.own _ _ ho h0)
 |ms id start len cap r addr h0 hle hin ha=>
  intro h
  cases h with
  |c hc=>cases hc
  |ms ho hp=>subst hp;exact .ms _ _ _ _ r addr (hG.own _ _ ho h0) hle hin ha
  |e ho hp hb=>subst hp;subst hb;exact .ms _ _ _ _ r addr (hG.own _ _ ho h0) hle hin ha
 |msnil id start cap base h0=>
  intro h
  cases h with
  |c hc=>cases hc
  |ms ho hp=>exact .msnil _ _ _ _ h0
  |e ho hp hb=>subst hb;exact .msnil _ _ _ _ h0
 |mc id start len cap r addr h0 hle hin ha=>
  intro h
  cases h with
  |c hc=>cases hc
  |mc ho hp=>subst hp;exact .mc _ _ _ _ r addr (hG.own _ _ ho h0) hle hin ha
  |mf ho hp hb=>subst hp;subst hb;exact .ms _ _ _ _ r addr (hG.own _ _ ho h0) hle hin ha
 |mcnil id start base=>
  intro h
  cases h with
  |c hc=>cases hc
  |mc ho hp=>exact .mcnil _ _ _
  |mf ho hp hb=>subst hb;exact .msnil _ _ _ _ rfl
 |fn f caps vs hlen h0 ih=>
  intro h
  cases h with
  |c hc=>exact .fn f caps vs hlen λi x y hx hy=>(h0 i x y hx hy).clean hG.imm (cleanL_get (by simpa[AV.clean]using hc) hx)
  |f hl=>exact .fn f _ vs (by rw[hl.length];exact hlen) λi x y hx hy=>let⟨z,hz,hc⟩:=hl.get hx;ih i z y hz hy hc
 |yld id r h0=>
  intro h
  cases h with
  |c hc=>cases hc
  |y ho hp=>subst hp;exact .yld _ r (hG.own _ _ ho h0)
 |agg cs vs hlen h0 ih=>
  intro h
  cases h with
  |c hc=>exact .agg cs vs hlen λi x y hx hy=>(h0 i x y hx hy).clean hG.imm (cleanL_get (by simpa[AV.clean]using hc) hx)
  |a hl=>exact .agg _ vs (by rw[hl.length];exact hlen) λi x y hx hy=>let⟨z,hz,hc⟩:=hl.get hx;ih i z y hz hy hc
 |tup cs vs hlen h0 ih=>
  intro h
  cases h with
  |c hc=>exact .tup cs vs hlen λi x y hx hy=>(h0 i x y hx hy).clean hG.imm (cleanL_get (by simpa[AV.clean]using hc) hx)
  |t hl=>exact .tup _ vs (by rw[hl.length];exact hlen) λi x y hx hy=>let⟨z,hz,hc⟩:=hl.get hx;ih i z y hz hy hc
theorem CoB.holds(hG:Seen ok π G G'){b b':Blk}{r:Reg}{o:Obj}(h:CoB ok π b b')(hh:Holds G r b' o):Holds G' r b o:=by
 cases h with
 |dfr=>cases hh;exact .dfr
 |loop hl=>
  cases hh with
  |loop _ fn tmps d hsz hV=>
   refine .loop _ fn tmps d hsz λt x hx=>?_
   have key: ∀{ks:List Nat}{xs ys:List AV},xs.length=ys.length->(∀(i:Nat)(x:AV),xs[i]? =some x-> ∃y:AV,ys[i]? =some y/\Co ok π x y)-> ∀t x,eget (zipE ks xs) t=some x-> ∃y,eget (zipE ks ys) t=some y/\Co ok π x y:=by
    intro ks
    induction ks with
    |nil=>intro xs ys _ _ t x hx;simp[zipE,egetN,egetC]at hx
    |cons k r ih=>
     intro xs ys hlen hc t x hx
     cases xs with
     |nil=>simp[zipE,egetN,egetC]at hx
     |cons x0 xs=>
      cases ys with
      |nil=>simp at hlen
      |cons y0 ys=>
       simp only[zipE,egetN,egetC]at hx ⊢
       split at hx
       ·rename_i e;cases hx;subst e
        obtain⟨y,hy,hcy⟩:=hc 0 _ rfl
        simp at hy;subst hy
        exact⟨y0,by simp,hcy⟩
       ·rename_i e
        rw[if_neg e]
        exact ih (by simpa using hlen) (λi x hx=>by simpa using hc (i+1) x (by simpa using hx)) t x hx
   obtain⟨y,hy,hcy⟩:=key hl.length (λi x hx=>hl.get hx) t x hx
   obtain⟨h1,h2⟩:=hV t y hy
   exact⟨h1,hcy.V hG h2⟩
 |cells hl=>
  cases hh with
  |cells _ _ cs e hsz hesz h0 hel hsc hin hV=>
   refine .cells _ _ cs e hsz hesz h0 (λx hx=>?_) (λx hx=>?_) (by rw[hl.length];exact hin) λk x hx=>?_
   ·obtain⟨y,hy,hc⟩:=hl.mem hx
    rw[hc.cells.length];exact hel y hy
   ·obtain⟨y,hy,hc⟩:=hl.flat.mem hx
    rw[hc.scalar];exact hsc y hy
   ·obtain⟨y,hy,hc⟩:=hl.flat.get hx
    obtain⟨v,hv,hV'⟩:=hV k y hy
    exact⟨v,hv,hc.V hG hV'⟩
 |cut hl=>
  cases hh with
  |cells _ _ cs e hsz hesz h0 hel hsc hin hV=>
   refine .cells _ _ cs e hsz hesz h0 (λx hx=>?_) (λx hx=>?_) (Nat.le_trans (Nat.add_le_add_left (Nat.mul_le_mul_right _ (by rw[hl.length,List.length_append];exact Nat.le_add_right _ _)) _) hin) λk x hx=>?_
   ·obtain⟨y,hy,hc⟩:=hl.mem hx
    rw[hc.cells.length];exact hel y (List.mem_append_left _ hy)
   ·obtain⟨y,hy,hc⟩:=hl.flat.mem hx
    rw[hc.scalar];exact hsc y (by rw[flat_append];exact List.mem_append_left _ hy)
   ·obtain⟨y,hy,hc⟩:=hl.flat.get hx
    obtain⟨v,hv,hV'⟩:=hV k y (by rw[flat_append,List.getElem?_append_left (List.getElem?_eq_some_iff.1 hy).1];exact hy)
    exact⟨v,hv,hc.V hG hV'⟩
theorem CoB.nil{b:Blk}{esz:Nat}(h:CoB ok π b (.cells esz [])):b=.cells esz []:=by
 generalize hb:Blk.cells esz []=b' at h
 cases h with
 |dfr=>cases hb
 |loop hl=>cases hb
 |cells hl=>
  cases hb
  rename_i xs
  have:xs=[]:=List.eq_nil_of_length_eq_zero (by simpa using hl.length)
  rw[this]
 |cut hl=>
  injection hb with h1 h2
  subst h1
  rename_i xs ys zs
  have h3:ys=[]:=(List.append_eq_nil_iff.1 h2.symm).1
  have:xs=[]:=List.eq_nil_of_length_eq_zero (by rw[hl.length,h3];rfl)
  rw[this,<-h2]
theorem CoL.V(hG:Seen ok π G G'){xs ys:List AV}{vs:Array Value}(h:CoL ok π xs ys)(hv:VL G ys vs):VL G' xs vs:=
 ⟨by rw[h.length];exact hv.1,λi x v hx hi=>let⟨y,hy,hc⟩:=h.get hx;hc.V hG (hv.2 i y v hy hi)⟩
end
def has(h:List (Nat×Blk))(id:Nat):Bool:=(eget h id).isSome
theorem has_iff{h:List (Nat×Blk)}{id:Nat}:has h id=true↔ ∃b,eget h id=some b:=by
 unfold has;exact Option.isSome_iff_exists
def okId(base:Nat)(h:List (Nat×Blk))(id:Nat):Bool:=Nat.blt id base||has h id
structure IntoM (base:Nat) (π:Nat->Nat) (S2 s:St):Prop where
 heap: ∀id b,eget S2.heap id=some b->(∃b',eget s.heap (π id)=some b'/\CoB (okId base S2.heap) π b b')\/(base<=id/\s.cnt<=π id/\ ∃esz,0<esz/\b=.cells esz [])
 low: ∀id,id<base->π id=id
 inj: ∀id id' b b',eget S2.heap id=some b->eget S2.heap id'=some b'->π id=π id'->id=id'\/s.cnt<=π id
 lt: ∀id b,eget S2.heap id=some b->id<S2.cnt
 cb:base<=S2.cnt
structure IntoS (base:Nat) (π:Nat->Nat) (S2 s:St):Prop extends IntoM base π S2 s where
 dfr: ∀id,eget s.heap id=some .dfr->id<base/\eget S2.heap id=some .dfr
def ghostI(base:Nat)(π:Nat->Nat)(h:List (Nat×Blk))(G:Ghost):Ghost:={imm:=G.imm,own:=λid=>if okId base h id=true then G.own (π id)else none}
section
variable {base:Nat} {π:Nat->Nat} {S2 s s0:St} {G G0:Ghost} {w w0:World}
theorem seenI:Seen (okId base S2.heap) π G (ghostI base π S2.heap G):=
 ⟨λ_ _ _ h=>h,λid r ho hr=>by simp only[ghostI,ho,if_true];exact hr⟩
theorem okId_low{h:List (Nat×Blk)}{id:Nat}(hl:id<base):okId base h id=true:=by simp[okId,hl]
theorem okId_has{h:List (Nat×Blk)}{id:Nat}{b:Blk}(hg:eget h id=some b):okId base h id=true:=by
 simp[okId,has_iff.2 ⟨b,hg⟩]
theorem ownI{h:List (Nat×Blk)}{id:Nat}{b:Blk}(hg:eget h id=some b):(ghostI base π h G).own id=G.own (π id):=by
 simp only[ghostI,okId_has hg,if_true]
theorem IntoM.sim(h:IntoM base π S2 s)(hs:Sim G s w):Sim (ghostI base π S2.heap G) S2 w:=by
 refine⟨hs.imm,λid b hg=>?_,λid id' b b' r r' h1 h2 o1 o2 hne=>?_,λid b r o hg ho=>?_,λid hid=>?_,h.lt⟩
 ·rw[ownI hg]
  rcases h.heap id b hg with⟨b',hb',hc⟩|⟨_,hn,esz,h0,he⟩
  ·rcases hs.heap _ _ hb' with⟨r,o,e1,e2,e3⟩|⟨e1,esz,h0,e2⟩
   ·exact .inl ⟨r,o,e1,e2,hc.holds seenI e3⟩
   ·refine .inr ⟨e1,esz,h0,?_⟩
    subst e2
    exact hc.nil
  ·exact .inr ⟨hs.fresh _ hn,esz,h0,he⟩
 ·rw[ownI h1]at o1
  rw[ownI h2]at o2
  rcases h.heap id b h1 with⟨c,hc,_⟩|⟨_,hn,_⟩
  ·rcases h.heap id' b' h2 with⟨c',hc',_⟩|⟨_,hn,_⟩
   ·refine hs.apart _ _ c c' r r' hc hc' o1 o2 λe=>?_
    rcases h.inj id id' b b' h1 h2 e with e|e
    ·exact hne e
    ·have:=hs.lt _ _ hc;omega
   ·rw[hs.fresh _ hn]at o2;cases o2
  ·rw[hs.fresh _ hn]at o1;cases o1
 ·rw[ownI hg]at ho
  rcases h.heap id b hg with⟨c,hc,_⟩|⟨_,hn,_⟩
  ·exact hs.clear _ c r o hc ho
  ·rw[hs.fresh _ hn]at ho;cases ho
 ·have hb:=h.cb
  have:okId base S2.heap id=false:=by
   cases hq:okId base S2.heap id with
   |false=>rfl
   |true=>
    simp only[okId,Bool.or_eq_true,Nat.blt_eq]at hq
    rcases hq with hq|hq
    ·omega
    ·obtain⟨b,hb⟩:=has_iff.1 hq
     have:=h.lt id b hb
     omega
  simp[ghostI,this]
theorem IntoS.ext(h:IntoS base π S2 s)(h0:Sim G0 s0 w0)(hx:Ext G0 s0 w0 G s w)(hs:Sim G s w)(hb:s0.cnt<=base):Ext G0 s0 w0 (ghostI base π S2.heap G) S2 w:=by
 have lo: ∀id,id<base->(ghostI base π S2.heap G).own id=G.own id:=λid hl=>by simp only[ghostI,okId_low hl,if_true,h.low id hl]
 refine⟨⟨hx.le.imm,λid r ho=>?_⟩,hx.os,hx.tape,hx.output,hx.size,hx.keep,hx.immNew,λid r ho=>?_,λid b hg=>?_,Nat.le_trans hb h.cb,λid hd=>?_,λid hl ho=>?_,hx.drawn⟩
 ·have:id<s0.cnt:=by
   by_cases hq:id<s0.cnt
   ·exact hq
   ·rw[h0.fresh id (by omega)]at ho;cases ho
  rw[lo id (by omega)];exact hx.le.own _ _ ho
 ·by_cases hl:id<base
  ·rw[lo id hl]at ho;exact hx.ownNew id r ho
  ·have hok:okId base S2.heap id=true:=by
    cases hq:okId base S2.heap id with
    |true=>rfl
    |false=>simp[ghostI,hq]at ho
   have hh:has S2.heap id=true:=by
    simp only[okId,Bool.or_eq_true,Nat.blt_eq]at hok
    rcases hok with hq|hq
    ·exact absurd hq hl
    ·exact hq
   obtain⟨b,hg⟩:=has_iff.1 hh
   rw[ownI hg]at ho
   rcases h.heap id b hg with⟨c,hc,_⟩|⟨_,hn,_⟩
   ·rcases hx.ownNew _ r ho with q|q
    ·rcases hx.ids _ c hc with⟨c0,q0⟩|q0
     ·exact .inr (.inr ⟨_,c0,r,q0,q,rfl⟩)
     ·rw[h0.fresh _ q0]at q;cases q
    ·exact .inr q
   ·rw[hs.fresh _ hn]at ho;cases ho
 ·by_cases hl:id<base
  ·rcases h.heap id b hg with⟨c,hc,_⟩|⟨hn,_⟩
   ·rw[h.low id hl]at hc;exact hx.ids id c hc
   ·omega
  ·exact .inr (by omega)
 ·exact(h.dfr id (hx.dfr id hd)).2
 ·rw[lo id (by omega)];exact hx.stay id hl ho
theorem IntoS.defs(h:IntoS base π S2 s): ∀{ds:List Deferred},Defs G s ds->Defs (ghostI base π S2.heap G) S2 ds
 | [],_=>trivial
 |_::_,⟨⟨id,r,a,b,c,d⟩,hr⟩=>⟨⟨id,r,(h.dfr id a).2,by simp only[ghostI];rw[if_pos (okId_low (h.dfr id a).1),h.low id (h.dfr id a).1];exact b,c,d⟩,h.defs hr⟩
end
structure Into (base:Nat) (π:Nat->Nat) (E2:Env) (S2:St) (env:Env) (s:St):Prop where
 st:IntoS base π S2 s
 env: ∀t x,eget E2 t=some x-> ∃y,eget env t=some y/\Co (okId base S2.heap) π x y
section
variable {P:Program} {N:Nat} {ρ:Option Nat} {Q Q':Exit->Env->St->Prop} {env E2:Env} {s S2:St} {base:Nat} {π:Nat->Nat}
theorem Into.now(h:Into base π E2 S2 env s){G:Ghost}{a:Act}{w:World}(hρ: ∀id,ρ=some id->id<base)(hn:Now G N ρ env s a w):Now (ghostI base π S2.heap G) N ρ E2 S2 a w:=by
 refine⟨h.st.sim hn.sim,λt x hx=>?_,hn.size,h.st.defs hn.defs,λid e=>?_⟩
 ·obtain⟨y,hy,hc⟩:=h.env t x hx
  exact⟨(hn.env t y hy).1,hc.V seenI (hn.env t y hy).2⟩
 ·obtain⟨r,hr⟩:=hn.known id e
  exact⟨r,by simp only[ghostI];rw[if_pos (okId_low (hρ id e)),h.st.low id (hρ id e)];exact hr⟩
def loopN{σ τ:Type}(body:σ->Option (σ⊕τ)):Nat->σ->Option τ
 |0,_=>none
 |n+1,st=>match body st with
  |some (.inl st')=>loopN body n st'
  |some (.inr r)=>some r
  |none=>none
end
end Go.Am
end
section
namespace Go.Am
open Go.RowKit
def okF(fr:Nat->Bool)(h:List (Nat×Blk))(id:Nat):Bool:=has h id&&!fr id
structure Fits (π σ:Nat->Nat) (fr:Nat->Bool) (H0 H1 s s':St):Prop where
 into: ∀id b,eget H0.heap id=some b-> ∃b',eget s.heap (π id)=some b'/\CoB (okId 0 H0.heap) π b b'
 inj: ∀id id' b b',eget H0.heap id=some b->eget H0.heap id'=some b'->π id=π id'->id=id'
 lt: ∀id b,eget H0.heap id=some b->id<H0.cnt
 out: ∀id b,eget s'.heap id=some b->fr id=false-> ∃b',eget H1.heap (σ id)=some b'/\CoB (okF fr s'.heap) σ b b'/\(id<s.cnt->has H0.heap (σ id)=true/\π (σ id)=id)
 keep: ∀id b,eget s'.heap id=some b->fr id=true->eget s.heap id=some b/\ ∀i b',eget H0.heap i=some b'->π i≠id
 inj': ∀id id' b b',eget s'.heap id=some b->eget s'.heap id'=some b'->fr id=false->fr id'=false->σ id=σ id'->id=id'
 lt': ∀id b,eget s'.heap id=some b->id<s'.cnt
 cnt:s.cnt<=s'.cnt
 dfr: ∀id,eget s.heap id=some .dfr->eget s'.heap id=some .dfr
def ghostO(cnt:Nat)(σ:Nat->Nat)(h:List (Nat×Blk))(G G':Ghost):Ghost:={imm:=G'.imm,own:=λid=>if id<cnt then G.own id else if has h id=true then G'.own (σ id)else none}
theorem Fits.intoM{π σ:Nat->Nat}{fr:Nat->Bool}{H0 H1 s s':St}(hf:Fits π σ fr H0 H1 s s'):IntoM 0 π H0 s:=
 ⟨λid b hg=>.inl (hf.into id b hg),λid hl=>by omega,λid id' b b' h1 h2 e=>.inl (hf.inj id id' b b' h1 h2 e),λid b hg=>hf.lt id b hg,Nat.zero_le _⟩
theorem gave_frame{H0 H1 s s':St}{v0 v:AV}{π σ:Nat->Nat}{fr:Nat->Bool}{G:Ghost}{w w':World}{e:Ending}(hf:Fits π σ fr H0 H1 s s')(hv:Co (okF fr s'.heap) σ v v0)(hs:Sim G s w)
  (hg:Gave (ghostI 0 π H0.heap G) H0 w (λy t=>y=v0/\t=H1) e w'):Gave G s w (λy t=>y=v/\t=s') e w':=by
 have own0: ∀{id b},eget H0.heap id=some b->(ghostI 0 π H0.heap G).own id=G.own (π id):=λhg=>ownI hg
 have own0': ∀{id r},(ghostI 0 π H0.heap G).own id=some r-> ∃b,eget H0.heap id=some b:=λ{id r}ho=>by
  cases hq:okId 0 H0.heap id with
  |false=>simp[ghostI,hq]at ho
  |true=>
   simp only[okId,Bool.or_eq_true,Nat.blt_eq,Nat.not_lt_zero,false_or]at hq
   exact has_iff.1 hq
 have ownedUp: ∀b,Owned (ghostI 0 π H0.heap G) H0 b->Owned G s b:=λb ⟨id,blk,r,g1,g2,g3⟩=>by
  rw[own0 g1]at g2
  obtain⟨b',hb',_⟩:=hf.into id blk g1
  exact⟨π id,b',r,hb',g2,g3⟩
 obtain⟨val,G1,y,t,rfl,hV,hS,hE,rfl,rfl⟩:=hg
 have oLow: ∀{id},id<s.cnt->(ghostO s.cnt σ s'.heap G G1).own id=G.own id:=λhl=>by simp[ghostO,hl]
 have oHigh: ∀{id b},¬id<s.cnt->eget s'.heap id=some b->(ghostO s.cnt σ s'.heap G G1).own id=G1.own (σ id):=λ{id b}hl hg=>by
  simp[ghostO,hl,has_iff.2 ⟨_,hg⟩]
 have oDer: ∀{id b},eget s'.heap id=some b->fr id=false->(ghostO s.cnt σ s'.heap G G1).own id=G1.own (σ id):=λ{id b}hg hfr=>by
  by_cases hl:id<s.cnt
  ·rw[oLow hl]
   obtain⟨_,_,_,hq⟩:=hf.out id b hg hfr
   obtain⟨h1,h2⟩:=hq hl
   obtain⟨c,hc⟩:=has_iff.1 h1
   have h3:=own0 hc
   rw[h2]at h3
   cases hr:G.own id with
   |none=>rw[hr]at h3;exact(hE.stay _ (hf.lt _ _ hc) h3).symm
   |some r=>rw[hr]at h3;exact(hE.le.own _ _ h3).symm
  ·exact oHigh hl hg
 have hle:GLe G (ghostO s.cnt σ s'.heap G G1):=⟨λb o v hi=>hE.le.imm b o v hi,λid r ho=>by
  have:id<s.cnt:=by
   by_cases hq:id<s.cnt
   ·exact hq
   ·rw[hs.fresh id (by omega)]at ho;cases ho
  rw[oLow this];exact ho⟩
 have seen:Seen (okF fr s'.heap) σ G1 (ghostO s.cnt σ s'.heap G G1):=⟨λ_ _ _ h=>h,λid r ho hr=>by
  simp only[okF,Bool.and_eq_true,Bool.not_eq_true']at ho
  obtain⟨b,hb⟩:=has_iff.1 ho.1
  rw[oDer hb ho.2];exact hr⟩
 have far: ∀{id b r},eget s.heap id=some b->(∀i b',eget H0.heap i=some b'->π i≠id)->G.own id=some r-> ¬Owned (ghostI 0 π H0.heap G) H0 r.block:=λ{id b r}hg hne ho ⟨i,b',r',g1,g2,g3⟩=>by
  rw[own0 g1]at g2
  obtain⟨c,hc,_⟩:=hf.into i b' g1
  exact hs.apart _ _ c b r' r hc hg g2 ho (hne i b' g1) g3
 have frOwn: ∀{id b},eget s'.heap id=some b->fr id=true->(ghostO s.cnt σ s'.heap G G1).own id=G.own id:=λhg hfr=>oLow (hs.lt _ _ (hf.keep _ _ hg hfr).1)
 have apart1: ∀{id id' b b' r r'},eget s'.heap id=some b->eget s'.heap id'=some b'->fr id=false->fr id'=true->(ghostO s.cnt σ s'.heap G G1).own id=some r->(ghostO s.cnt σ s'.heap G G1).own id'=some r'->r.block≠r'.block:=
  λ{id id' b b' r r'}h1 h2 f1 f2 o1 o2 e=>by
   rw[oDer h1 f1]at o1
   rw[frOwn h2 f2]at o2
   obtain⟨k1,k2⟩:=hf.keep _ _ h2 f2
   have hfar:=far k1 k2 o2
   rcases hE.ownNew _ _ o1 with q|q|q
   ·obtain⟨c,hc⟩:=own0' q
    exact hfar ⟨_,c,r,hc,q,e⟩
   ·have:=hs.own_lt k1 o2
    omega
   ·rw[e]at q;exact hfar q
 refine⟨val,ghostO s.cnt σ s'.heap G G1,v,s',rfl,hv.V seen hV,⟨hS.imm,λid b hg=>?_,λid id' b b' r r' h1 h2 o1 o2 hne=>?_,λid b r o hg ho=>?_,λid hid=>?_,hf.lt'⟩,
  ⟨hle,hE.os,hE.tape,hE.output,hE.size,λb hb hno=>hE.keep b hb λq=>hno (ownedUp b q),λb o u hi=>?_,λid r ho=>?_,λid b hg=>?_,hf.cnt,hf.dfr,λid hl ho=>by rw[oLow hl];exact ho,hE.drawn⟩,rfl,rfl⟩
 ·cases hfr:fr id with
  |false=>
   rw[oDer hg hfr]
   obtain⟨b',hb',hc,_⟩:=hf.out id b hg hfr
   rcases hS.heap _ _ hb' with⟨r,o,e1,e2,e3⟩|⟨e1,esz,h0,e2⟩
   ·exact .inl ⟨r,o,e1,e2,hc.holds seen e3⟩
   ·refine .inr ⟨e1,esz,h0,?_⟩
    subst e2
    exact hc.nil
  |true=>
   rw[frOwn hg hfr]
   obtain⟨k1,k2⟩:=hf.keep _ _ hg hfr
   rcases hs.heap _ _ k1 with⟨r,o,e1,e2,e3⟩|q
   ·exact .inl ⟨r,o,e1,by rw[hE.keep _ (hs.own_lt k1 e1) (far k1 k2 e1)];exact e2,e3.mono hle⟩
   ·exact .inr q
 ·cases f1:fr id with
  |false=>
   cases f2:fr id' with
   |false=>
    rw[oDer h1 f1]at o1
    rw[oDer h2 f2]at o2
    obtain⟨c,hc,_⟩:=hf.out id b h1 f1
    obtain⟨c',hc',_⟩:=hf.out id' b' h2 f2
    exact hS.apart _ _ c c' r r' hc hc' o1 o2 λe=>hne (hf.inj' id id' b b' h1 h2 f1 f2 e)
   |true=>exact apart1 h1 h2 f1 f2 o1 o2
  |true=>
   cases f2:fr id' with
   |false=>exactλe=>apart1 h2 h1 f2 f1 o2 o1 e.symm
   |true=>
    rw[frOwn h1 f1]at o1
    rw[frOwn h2 f2]at o2
    exact hs.apart id id' b b' r r' (hf.keep _ _ h1 f1).1 (hf.keep _ _ h2 f2).1 o1 o2 hne
 ·show G1.imm r.block o=none
  cases hfr:fr id with
  |false=>
   rw[oDer hg hfr]at ho
   obtain⟨c,hc,_⟩:=hf.out id b hg hfr
   exact hS.clear _ c r o hc ho
  |true=>
   rw[frOwn hg hfr]at ho
   obtain⟨k1,k2⟩:=hf.keep _ _ hg hfr
   cases hi:G1.imm r.block o with
   |none=>rfl
   |some u=>
    rcases hE.immNew _ _ _ hi with q|q|q
    ·have q':G.imm r.block o=some u:=q
     rw[hs.clear id b r o k1 ho]at q';cases q'
    ·have:=hs.own_lt k1 ho;omega
    ·exact absurd q (far k1 k2 ho)
 ·have hc:=hf.cnt
  have hn:has s'.heap id=false:=by
   cases hq:has s'.heap id with
   |false=>rfl
   |true=>
    obtain⟨b,hb⟩:=has_iff.1 hq
    have:=hf.lt' id b hb
    omega
  have: ¬id<s.cnt:=by omega
  simp[ghostO,this,hn]
 ·rcases hE.immNew b o u hi with q|q|q
  ·exact .inl q
  ·exact .inr (.inl q)
  ·exact .inr (.inr (ownedUp b q))
 ·by_cases hl:id<s.cnt
  ·rw[oLow hl]at ho;exact .inl ho
  ·have hh:has s'.heap id=true:=by
    cases hq:has s'.heap id with
    |true=>rfl
    |false=>simp[ghostO,hl,hq]at ho
   obtain⟨b,hb⟩:=has_iff.1 hh
   rw[oHigh hl hb]at ho
   rcases hE.ownNew _ _ ho with q|q|q
   ·obtain⟨c,hc⟩:=own0' q
    exact .inr (.inr (ownedUp _ ⟨_,c,r,hc,q,rfl⟩))
   ·exact .inr (.inl q)
   ·exact .inr (.inr (ownedUp _ q))
 ·cases hfr:fr id with
  |false=>
   by_cases hl:id<s.cnt
   ·obtain⟨_,_,_,hq⟩:=hf.out id b hg hfr
    obtain⟨h1,h2⟩:=hq hl
    obtain⟨c,hc⟩:=has_iff.1 h1
    obtain⟨b',hb',_⟩:=hf.into _ c hc
    rw[h2]at hb'
    exact .inl ⟨b',hb'⟩
   ·exact .inr (by omega)
  |true=>exact .inl ⟨b,(hf.keep _ _ hg hfr).1⟩
theorem acalls_frame{P:Program}{f:FuncId}{args0 args:List AV}{H0 H1 s s':St}{v0 v:AV}{π σ:Nat->Nat}{fr:Nat->Bool}(h:ACalls P f args0 H0 λy t=>y=v0/\t=H1)(hf:Fits π σ fr H0 H1 s s')
  (ha:CoL (okId 0 H0.heap) π args0 args) (hv:Co (okF fr s'.heap) σ v v0):ACalls P f args s λy t=>y=v/\t=s':=λG w vs hs hvs=>
 (h _ w vs (hf.intoM.sim hs) (ha.V seenI hvs)).mono λ_ _ hg=>gave_frame hf hv hs hg
theorem ayield_frame{P:Program}{id:Nat}{args0 args:List AV}{H0 H1 s s':St}{v0 v:AV}{π σ:Nat->Nat}{fr:Nat->Bool}(h:AYield P id args0 H0 λy t=>y=v0/\t=H1)(hid:has H0.heap id=true)(hf:Fits π σ fr H0 H1 s s')
  (ha:CoL (okId 0 H0.heap) π args0 args) (hv:Co (okF fr s'.heap) σ v v0):AYield P (π id) args s λy t=>y=v/\t=s':=λo G w r vs hs ho hvs=>by
 obtain⟨b,hb⟩:=has_iff.1 hid
 obtain⟨fn,tmps,assign,body,h1,h2⟩:=h o _ w r vs (hf.intoM.sim hs) (by rw[ownI hb];exact ho) (ha.V seenI hvs)
 exact⟨fn,tmps,assign,body,h1,h2.mono λ_ _ hg=>gave_frame hf hv hs hg⟩
mutual
inductive Fz (id:Nat) (elems:List AV):AV->AV->Prop
 |r (x:AV):Fz id elems x x
 |m {start len:Nat} {l:List AV} (hl:start+len<=elems.length) (he:(elems.drop start).take len=l):Fz id elems (.sl false l) (.ms id start len)
 |o {e:AV} {cs:List AV} (he:elems=[e]) (hc:e.cells=cs):Fz id elems (.ip cs) (.mp id 0 0)
 |a {xs ys:List AV} (h:FzL id elems xs ys):Fz id elems (.agg xs) (.agg ys)
 |t {xs ys:List AV} (h:FzL id elems xs ys):Fz id elems (.tup xs) (.tup ys)
 |f {g:FuncId} {xs ys:List AV} (h:FzL id elems xs ys):Fz id elems (.fn g xs) (.fn g ys)
inductive FzL (id:Nat) (elems:List AV):List AV->List AV->Prop
 |z:FzL id elems [] []
 |k {x y:AV} {xs ys:List AV} (h:Fz id elems x y) (hs:FzL id elems xs ys):FzL id elems (x::xs) (y::ys)
 |r (xs:List AV):FzL id elems xs xs
 |p {xs ys xs' ys':List AV} (h:FzL id elems xs ys) (h':FzL id elems xs' ys'):FzL id elems (xs++xs') (ys++ys')
end
section
variable {id:Nat} {elems:List AV} {G G':Ghost}
theorem FzL.length: ∀{xs ys:List AV},FzL id elems xs ys->xs.length=ys.length
 |_,_,.z=>rfl
 |_,_,.k _ hs=>by simp[hs.length]
 |_,_,.r _=>rfl
 |_,_,.p h h'=>by simp[h.length,h'.length]
theorem FzL.get: ∀{xs ys:List AV},FzL id elems xs ys-> ∀{i:Nat}{x:AV},xs[i]? =some x-> ∃y,ys[i]? =some y/\Fz id elems x y
 |_,_,.z,i,x,h=>by simp at h
 |_,_,.k h0 hs,i,x,h=>by
  cases i with
  |zero=>simp at h;subst h;exact⟨_,rfl,h0⟩
  |succ i=>exact hs.get (by simpa using h)
 |_,_,.r _,i,x,h=>⟨x,h,.r x⟩
 |_,_,.p (xs:=xs) (ys:=ys) (xs':=xs') (ys':=ys') h1 h2,i,x,h=>by
  have hl:=h1.length
  by_cases hi:i<xs.length
  ·rw[List.getElem?_append_left hi]at h
   obtain⟨y,hy,hc⟩:=h1.get h
   exact⟨y,by rw[List.getElem?_append_left (by omega)];exact hy,hc⟩
  ·rw[List.getElem?_append_right (by omega)]at h
   obtain⟨y,hy,hc⟩:=h2.get h
   exact⟨y,by rw[List.getElem?_append_right (by omega),<-hl];exact hy,hc⟩
theorem FzL.mem{xs ys:List AV}(h:FzL id elems xs ys){x:AV}(hx:x∈xs): ∃y∈ys,Fz id elems x y:=by
 obtain⟨i,hi,rfl⟩:=List.getElem_of_mem hx
 obtain⟨y,hy,hc⟩:=h.get (List.getElem?_eq_getElem hi)
 exact⟨y,List.mem_of_getElem? hy,hc⟩
theorem Fz.cells{x y:AV}(h:Fz id elems x y):FzL id elems x.cells y.cells:=by
 cases h with
 |r=>exact .r _
 |m hl he=>exact .k (.m hl he) .z
 |o he hc=>exact .k (.o he hc) .z
 |a h=>exact h
 |t h=>exact .k (.t h) .z
 |f h=>exact .k (.f h) .z
theorem Fz.scalar{x y:AV}(h:Fz id elems x y):x.scalar=y.scalar:=by cases h<;>rfl
theorem FzL.flat: ∀{xs ys:List AV},FzL id elems xs ys->FzL id elems (flat xs) (flat ys)
 |_,_,.z=>.z
 |_,_,.k h hs=>by rw[flat_cons,flat_cons];exact .p h.cells hs.flat
 |_,_,.r _=>.r _
 |_,_,.p h h'=>by rw[flat_append,flat_append];exact .p h.flat h'.flat
theorem Fz.V(hle:GLe G G')(hm:(∀start len v,start+len<=elems.length->V G (.ms id start len) v->V G' (.sl false ((elems.drop start).take len)) v)/\ ∀e v,elems=[e]->V G (.mp id 0 0) v->V G' (.ip e.cells) v){x y:AV}{v:Value}(hv:V G y v):Fz id elems x y->V G' x v:=by
 induction hv generalizing x with
 |fn f caps vs hlen h0 ih=>
  intro h
  cases h with
  |r=>exact(V.fn f caps vs hlen h0).mono hle
  |f hl=>exact .fn f _ vs (by rw[hl.length];exact hlen) λi x y hx hy=>let⟨z,hz,hc⟩:=hl.get hx;ih i z y hz hy hc
 |agg cs vs hlen h0 ih=>
  intro h
  cases h with
  |r=>exact(V.agg cs vs hlen h0).mono hle
  |a hl=>exact .agg _ vs (by rw[hl.length];exact hlen) λi x y hx hy=>let⟨z,hz,hc⟩:=hl.get hx;ih i z y hz hy hc
 |tup cs vs hlen h0 ih=>
  intro h
  cases h with
  |r=>exact(V.tup cs vs hlen h0).mono hle
  |t hl=>exact .tup _ vs (by rw[hl.length];exact hlen) λi x y hx hy=>let⟨z,hz,hc⟩:=hl.get hx;ih i z y hz hy hc
 |any v=>intro h;cases h;exact .any v
 |bool b=>intro h;cases h;exact .bool b
 |int k n=>intro h;cases h;exact .int k n
 |str s=>intro h;cases h;exact .str s
 |nilp=>intro h;cases h;exact .nilp
 |nilf=>intro h;cases h;exact .nilf
 |slnil full base cap hf hb=>intro h;cases h;exact .slnil full base cap hf hb
 |sl full elems b off esz cap val hcap hfull hesz hsc himm hV ih=>intro h;cases h;exact(V.sl full elems b off esz cap val hcap hfull hesz hsc himm hV).mono hle
 |ip cells b off val himm hV ih=>intro h;cases h;exact(V.ip cells b off val himm hV).mono hle
 |mp id el off r h0=>
  intro h
  cases h with
  |r=>exact(V.mp id el off r h0).mono hle
  |o he hc=>rw[<-hc];exact hm.2 _ _ he (.mp _ _ _ r h0)
 |yld id r h0=>intro h;cases h;exact(V.yld id r h0).mono hle
 |ms id start len cap r addr h0 hle' hin ha=>
  intro h
  cases h with
  |r=>exact(V.ms id start len cap r addr h0 hle' hin ha).mono hle
  |m hl he=>rw[<-he];exact hm.1 _ _ _ hl (.ms _ _ _ _ _ _ h0 hle' hin ha)
 |msnil id start cap base h0=>
  intro h
  cases h with
  |r=>exact .msnil _ _ _ _ h0
  |m hl he=>rw[<-he];exact hm.1 _ _ _ hl (.msnil _ _ _ _ h0)
 |mc id start len cap r addr h0 hle' hin ha=>intro h;cases h;exact(V.mc id start len cap r addr h0 hle' hin ha).mono hle
 |mcnil id start base=>intro h;cases h;exact .mcnil _ _ _
end
inductive FzB (id:Nat) (elems:List AV):Blk->Blk->Prop
 |r (b:Blk):FzB id elems b b
 |cells {esz:Nat} {xs ys:List AV} (h:FzL id elems xs ys):FzB id elems (.cells esz xs) (.cells esz ys)
theorem FzB.holds{id:Nat}{elems:List AV}{G G':Ghost}(hle:GLe G G')(hm:(∀start len v,start+len<=elems.length->V G (.ms id start len) v->V G' (.sl false ((elems.drop start).take len)) v)/\ ∀e v,elems=[e]->V G (.mp id 0 0) v->V G' (.ip e.cells) v)
  {b b':Blk} {r:Reg} {o:Obj} (h:FzB id elems b b') (hh:Holds G r b' o):Holds G' r b o:=by
 cases h with
 |r=>exact hh.mono hle
 |cells hl=>
  cases hh with
  |cells _ _ cs e hsz hesz h0 hel hsc hin hV=>
   refine .cells _ _ cs e hsz hesz h0 (λx hx=>?_) (λx hx=>?_) (by rw[hl.length];exact hin) λk x hx=>?_
   ·obtain⟨y,hy,hc⟩:=hl.mem hx
    rw[hc.cells.length];exact hel y hy
   ·obtain⟨y,hy,hc⟩:=hl.flat.mem hx
    rw[hc.scalar];exact hsc y hy
   ·obtain⟨y,hy,hc⟩:=hl.flat.get hx
    obtain⟨v,hv,hV'⟩:=hV k y hy
    exact⟨v,hv,hc.V hle hm hV'⟩
theorem awp_fz{P:Program}{N:Nat}{ρ:Option Nat}{Q:Exit->Env->St->Prop}{env E2:Env}{s S2:St}{c:Code}{id esz:Nat}{elems:List AV}(hg:eget s.heap id=some (.cells esz elems))
  (hE: ∀t x,eget E2 t=some x-> ∃y,eget env t=some y/\Fz id elems x y) (hS: ∀i b,eget S2.heap i=some b->i≠id/\ ∃b',eget s.heap i=some b'/\FzB id elems b b') (hc:S2.cnt=s.cnt)
  (hd: ∀i,eget s.heap i=some .dfr->eget S2.heap i=some .dfr) (h:AWp P N ρ c Q E2 S2):AWp P N ρ c Q env s:=λG w a hn=>by
 obtain⟨G',h1,h2,h3⟩:=freeze_ms hn.sim (start:=0) (len:=0) hg (Nat.zero_le _)
 have del: ∀{i b},i≠id->eget s.heap i=some b->eget (edel s.heap id) i=some b:=λ{i b}hne hb=>by
  rw[get_del,if_neg (λe=>hne e.symm)];exact hb
 have hsim:Sim G' S2 w:=⟨h1.imm,λi b hi=>by
   obtain⟨hne,b',hb',hf⟩:=hS i b hi
   rcases h1.heap i b' (del hne hb')with⟨r,o,e1,e2,_⟩|⟨e1,sz,h0,e2⟩
   ·refine .inl ⟨r,o,e1,e2,?_⟩
    rcases hn.sim.heap i b' hb' with⟨r',o',q1,q2,q3⟩|⟨q1,_,_,q2⟩
    ·rw[h2.le.own _ _ q1]at e1;cases e1
     rw[e2]at q2;cases q2
     exact hf.holds h2.le h3 q3
    ·rw[h2.stay i (hn.sim.lt _ _ hb') q1]at e1;cases e1
   ·refine .inr ⟨e1,sz,h0,?_⟩
    subst e2
    cases hf with
    |r=>rfl
    |cells hl=>
     rename_i xs
     have:xs=[]:=List.eq_nil_of_length_eq_zero (by simpa using hl.length)
     rw[this],
  λi i' b b' r r' g1 g2=>by
   obtain⟨n1,c1,k1,_⟩:=hS i b g1
   obtain⟨n2,c2,k2,_⟩:=hS i' b' g2
   exact h1.apart i i' c1 c2 r r' (del n1 k1) (del n2 k2),
  λi b r o g1=>by
   obtain⟨n1,c1,k1,_⟩:=hS i b g1
   exact h1.clear i c1 r o (del n1 k1),
  λi hi=>h1.fresh i (by rw[hc]at hi;exact hi),
  λi b g1=>by
   obtain⟨n1,c1,k1,_⟩:=hS i b g1
   rw[hc];exact hn.sim.lt i c1 k1⟩
 have hext:Ext G s w G' S2 w:=⟨h2.le,rfl,rfl,rfl,Nat.le_refl _,λ_ _ _=>rfl,h2.immNew,h2.ownNew,λi b g1=>by
   obtain⟨n1,c1,k1,_⟩:=hS i b g1
   exact .inl ⟨c1,k1⟩,by rw[hc];exact Nat.le_refl _,hd,h2.stay,h2.drawn⟩
 refine AWp.later h hn.sim hn.known hext ⟨hsim,λt' x hx=>?_,hn.size,hn.defs.ext hext,hn.known.le h2.le⟩
 obtain⟨y,hy,hf⟩:=hE t' x hx
 obtain⟨q1,q2⟩:=hn.env _ _ hy
 exact⟨q1,hf.V h2.le h3 q2⟩
end Go.Am
end
section
namespace Go.Am
open Go.RowKit
structure Hint where
 k:Nat:=0
 g:Bool:=true
 b:Bool:=false
 x:AV:=.any
 l:List AV:=[]
 n:Nat:=0
 m:Nat:=0
 p:Nat:=0
 q:Nat:=0
 r:Nat:=0
 u:UInt8:=0
 c:Option (AV×St):=none
def eqLen(o:Option Nat)(n:Nat):Bool:=match o with
 |some k=>Nat.beq k n
 |none=>false
theorem eqLen_iff{o:Option Nat}{n:Nat}:eqLen o n=true↔o=some n:=by
 unfold eqLen
 cases o with
 |none=>simp
 |some k=>simp[Nat.beq_eq]
end Go.Am
end
