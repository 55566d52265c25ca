/- The logic AM, D: rules for generated walks, states under new names, frames, hints. -/
import Derived.Test.YtpbahncblggodaaGreatAmC
set_option linter.all false
section
namespace Go.Am
open Go.RowKit
theorem nC{β:Type}: ∀{l:List (Nat×β)}{i:Nat}{x:β},bH l i=some x->dT l i x=l
 | [],_,_,h=>by simp[cR,cG]at h
 |(k,y)::r,i,x,h=>by
  simp only[cR,cG]at h
  simp only[Kb,sU]
  split at h
  ·rename_i e;subst e;cases h;simp
  ·rename_i e;rw[if_neg e,nC h]
def ES(g:Option (Nat×Bool))(bI:Env)(A B:Env->Prop):Prop:=match g with
 |none=>A bI
 |some (d,want)=>match bH bI d with
  |some (.bool b)=>(b=want->A (dT bI d (.bool want)))/\(b=!want->B (dT bI d (.bool (!want))))
  |some (.dW [])=>B bI
  |_=>False
theorem G9{g:Option (Nat×Bool)}{bI:Env}{A B:Env->Prop}{A' B':Prop}(h:ES g bI A B)(ha:A bI->A')(hb:B bI->B'):EP g bI A' B':=by
 unfold ES at h
 unfold EP
 split at h
 ·exact ha h
 ·split at h
  ·rename_i b he
   simp only[he]
   refine⟨λe=>ha ?_,λe=>hb ?_⟩
   ·have:=h.1 e
    subst e
    rwa[nC he]at this
   ·have:=h.2 e
    subst e
    rwa[nC he]at this
  ·rename_i he
   simp only[he]
   exact hb h
  ·cases h
theorem xE{P:Program}{op:Op}{K K':AV->St->Prop}{bI:Env}{s:St}(h:ows P op K bI s)(hk: ∀v s',K v s'->K' v s'):ows P op K' bI s:=by
 unfold ows at h |-
 split at h
 ·split at h
  ·exact⟨h.1,h.2.mono hk⟩
  ·exact h.mono hk
  ·cases h
 ·split at h
  ·exact hk _ _ h
  ·cases h
def Ha(P:Program)(l:List Oper)(K:Env->St->Prop):List Step->List (Nat×Env×AV)->Env->St->Prop
 | [],_,bI,s=>K bI s
 |.ig i note::r,tr,bI,s=>match l[i]? with
  |some o=>ES (lJ l o).guard bI (λbI=>match iL P o.op (iF (ik o) bI) s with
    |some (v,_)=>Ha P l K r (if note then(i,iF (ik o) bI,v)::tr else tr) (fp o.dst v bI) s
    |none=>False) (λbI=>Ha P l K r tr (fp o.dst (.dW []) bI) s)
  |none=>False
 |.gW i wb::r,tr,bI,s=>match l[i]? with
  |some o=>ES (lJ l o).guard bI (λbI=>ows P o.op (λv s'=>rW P l tr s' wb/\Ha P l K r tr (fp o.dst v bI) s') (iF (ik o) bI) s) (λbI=>Ha P l K r tr (fp o.dst (.dW []) bI) s)
  |none=>False
 |.alloc i::r,tr,bI,s=>match l[i]? with
  |some o=>match iL P o.op [] s with
   |some (v,s')=>Ha P l K r tr (fp o.dst v bI) s'
   |none=>False
  |none=>False
theorem qy{P:Program}{l:List Oper}{K:Env->St->Prop}: ∀{bN:List Step}{tr:List (Nat×Env×AV)}{bI:Env}{s:St},Ha P l K bN tr bI s->zi P l K bN tr bI s
 | [],_,_,_,h=>h
 |.ig i note::r,tr,bI,s,h=>by
  simp only[Ha]at h
  simp only[zi]
  split at h
  ·rename_i o ho
   simp only[ho]
   refine G9 h (λh=>?_) (λh=>qy h)
   split at h
   ·rename_i v s' hx
    simp only[hx]
    exact qy h
   ·cases h
  ·cases h
 |.gW i wb::r,tr,bI,s,h=>by
  simp only[Ha]at h
  simp only[zi]
  split at h
  ·rename_i o ho
   simp only[ho]
   exact G9 h (λh=>xE h λ_ _ h=>⟨h.1,qy h.2⟩) (λh=>qy h)
  ·cases h
 |.alloc i::r,tr,bI,s,h=>by
  simp only[Ha]at h
  simp only[zi]
  split at h
  ·rename_i o ho
   simp only[ho]
   split at h
   ·rename_i v s' hx
    simp only[hx]
    exact qy h
   ·cases h
  ·cases h
structure DI where
 st:Step
 ins:Option Ins
 aaq:List Nat
def I1(l:List Oper):List Step->List DI
 | []=>[]
 |st::r=>⟨st,(l[st.idx]?).map (lJ l),(match l[st.idx]? with|some o=>ik o|none=>[])⟩::I1 l r
def Ah:List (Nat×Op×Env×AV)->Nat->Option (Op×Env×AV)
 | [],_=>none
 |(k,x)::r,i=>if k=i then some x else Ah r i
def wg(P:Program)(tr:List (Nat×Op×Env×AV))(s:St):List Nat->Prop
 | []=>True
 |j::r=>(match Ah tr j with
  |some (op,e,v)=>iL P op e s=some (v,s)
  |none=>True)/\wg P tr s r
def dq(P:Program)(K:Env->St->Prop):List DI->List (Nat×Op×Env×AV)->Env->St->Prop
 | [],_,bI,s=>K bI s
 |⟨.ig i note,some n,sl⟩::r,tr,bI,s=>ES n.guard bI (λbI=>match iL P n.op (iF sl bI) s with
   |some (v,_)=>dq P K r (if note then(i,n.op,iF sl bI,v)::tr else tr) (fp n.dst v bI) s
   |none=>False) (λbI=>dq P K r tr (fp n.dst (.dW []) bI) s)
 |⟨.gW _ wb,some n,sl⟩::r,tr,bI,s=>ES n.guard bI (λbI=>ows P n.op (λv s'=>wg P tr s' wb/\dq P K r tr (fp n.dst v bI) s') (iF sl bI) s) (λbI=>dq P K r tr (fp n.dst (.dW []) bI) s)
 |⟨.alloc _,some n,_⟩::r,tr,bI,s=>match iL P n.op [] s with
  |some (v,s')=>dq P K r tr (fp n.dst v bI) s'
  |none=>False
 |⟨_,none,_⟩::_,_,_,_=>False
def Oj(l:List Oper)(i:Nat):Op:=match l[i]? with
 |some o=>o.op
 |none=>.move (.const undef)
def NH(l:List Oper)(tr:List (Nat×Env×AV)):List (Nat×Op×Env×AV):=tr.map λp=>(p.1,Oj l p.1,p.2.1,p.2.2)
theorem De(l:List Oper): ∀(tr:List (Nat×Env×AV))(j:Nat),Ah (NH l tr) j=(pO tr j).map λp=>(Oj l j,p.1,p.2)
 | [],j=>rfl
 |(k,e,v)::r,j=>by
  have ih:=De l r j
  unfold NH at ih
  simp only[NH,wy,Ah,pO]
  split
  ·rename_i h;subst h;rfl
  ·exact ih
theorem xF{P:Program}{l:List Oper}{tr:List (Nat×Env×AV)}{s:St}: ∀{wb:List Nat},wg P (NH l tr) s wb->rW P l tr s wb
 | [],_=>trivial
 |j::r,⟨h1,h2⟩=>by
  refine⟨?_,xF h2⟩
  rw[De]at h1
  split
  ·rename_i e v o hf hl
   simp only[hf,gl,Oj,hl]at h1
   exact h1
  ·trivial
theorem oC{P:Program}{l:List Oper}{K:Env->St->Prop}: ∀{bN:List Step}{tr:List (Nat×Env×AV)}{bI:Env}{s:St},dq P K (I1 l bN) (NH l tr) bI s->Ha P l K bN tr bI s
 | [],_,_,_,h=>h
 |st::r,tr,bI,s,h=>by
  simp only[I1]at h
  cases ho:l[st.idx]? with
  |none=>
   simp only[ho,QP]at h
   cases st<;>exact h.elim
  |some o=>
   simp only[ho,gl]at h
   cases st with
   |ig i note=>
    simp only[Step.idx]at ho
    simp only[dq]at h
    simp only[Ha,ho]
    have key: ∀{bI:Env},(match iL P (lJ l o).op (iF (ik o) bI) s with
      |some (v,_)=>dq P K (I1 l r) (if note then(i,(lJ l o).op,iF (ik o) bI,v)::NH l tr else NH l tr) (fp (lJ l o).dst v bI) s
      |none=>False)->(match iL P o.op (iF (ik o) bI) s with
      |some (v,_)=>Ha P l K r (if note then(i,iF (ik o) bI,v)::tr else tr) (fp o.dst v bI) s
      |none=>False):=λh=>by
     have e:(lJ l o).op=o.op:=rfl
     rw[e]at h
     split at h
     ·rename_i v s1 hv
      try simp only[hv]
      refine oC ?_
      cases note
      ·exact h
      ·simp only[if_true]at h |-
       have: ∀e,NH l ((i,e,v)::tr)=(i,o.op,e,v)::NH l tr:=λe=>by simp[NH,Oj,ho]
       rw[this];exact h
     ·cases h
    unfold ES at h |-
    split at h
    ·exact key h
    ·split at h
     ·exact⟨λe=>key (h.1 e),λe=>oC (h.2 e)⟩
     ·exact oC h
     ·cases h
   |gW i wb=>
    simp only[Step.idx]at ho
    simp only[dq]at h
    simp only[Ha,ho]
    unfold ES at h |-
    split at h
    ·exact xE h λ_ _ h=>⟨xF h.1,oC h.2⟩
    ·split at h
     ·exact⟨λe=>xE (h.1 e) λ_ _ h=>⟨xF h.1,oC h.2⟩,λe=>oC (h.2 e)⟩
     ·exact oC h
     ·cases h
   |alloc i=>
    simp only[Step.idx]at ho
    simp only[dq]at h
    simp only[Ha,ho]
    split at h
    ·rename_i v s' hv
     have UE:iL P o.op [] s=some (v,s'):=hv
     rw[UE]
     exact oC h
    ·cases h
def Hb(op:Op):List Nat:=op.operands.toList.flatMap PP
def Ro(I:List Ins):List Step->List DI
 | []=>[]
 |st::r=>⟨st,I[st.idx]?,(match I[st.idx]? with|some n=>Hb n.op|none=>[])⟩::Ro I r
theorem KW(l:List Oper): ∀bN,Ro (ins l) bN=I1 l bN
 | []=>rfl
 |st::r=>by
  have e:(ins l)[st.idx]? =(l[st.idx]?).map (lJ l):=by unfold ins;rw[sK]
  simp only[Ro,I1,KW l r,e]
  cases l[st.idx]?<;>rfl
section
variable {P:Program} {K:Env->St->Prop} {d:Option Nat} {op:Op} {r:List Ins} {bI:Env} {s:St} {t:Nat} {w:Bool}
end
section
variable {P:Program} {K:Env->St->Prop} {d:Option Nat} {op:Op} {r:List DI} {bI:Env} {s:St} {t:Nat} {w:Bool} {i:Nat} {note:Bool} {sl wb:List Nat} {tr:List (Nat×Op×Env×AV)} {st:Step}
end
section
variable {P:Program} {N:Nat} {ρ:Option Nat} {Q:Exit->Env->St->Prop} {bI:Env} {s:St} {c:Code}
end
theorem Fj.self{s:St}(h: ∀id,bH s.heap id≠some .gb):Fj s s:=⟨λid b hg=>⟨hg,λe=>by subst e;exact h id hg⟩,eu _⟩
def tg:gp->Bool
 |.gb=>true
 |.cells _ _=>false
 |.loop _=>false
def mJ:List (Nat×gp)->Bool
 | []=>true
 |(_,b)::r=>!tg b&&mJ r
theorem nD: ∀{l:List (Nat×gp)},mJ l=true-> ∀id,bH l id≠some .gb
 | [],_,id,h=>by simp[cR,cG]at h
 |(k,b)::r,hn,id,h=>by
  simp only[cR,cG]at h
  split at h
  ·cases h;simp[mJ,tg]at hn
  ·simp only[mJ,eW]at hn
   exact nD hn.2 id h
theorem w64{n:Int}(h1: -9223372036854775808<=n)(h2:n<=9223372036854775807):IntKind.i64.wrap n=n:=by rw[IntKind.wrap_i64];omega
theorem nE{β:Type}: ∀{l:List (Nat×β)}{i:Nat}{x:β},bH l i=some x->(i,x)∈l
 | [],i,x,h=>by simp[cR,cG]at h
 |(k,y)::r,i,x,h=>by
  simp only[cR,cG]at h
  split at h
  ·rename_i e;subst e;cases h;simp
  ·exact Iv _ (nE h)
section
@[simp] theorem Tx(l:List AV):(AV.agg l).cells=l:=rfl
@[simp] theorem Ty(k:IntKind)(n:Int):(AV.int k n).cells=[.int k n]:=rfl
@[simp] theorem Rp(b:Bool):(AV.bool b).cells=[.bool b]:=rfl
@[simp] theorem Tz(b:ByteArray):(AV.str b).cells=[.str b]:=rfl
@[simp] theorem U2(b:Bool)(l:List AV):(AV.sl b l).cells=[.sl b l]:=rfl
@[simp] theorem U3(i a b:Nat):(AV.ms i a b).cells=[.ms i a b]:=rfl
@[simp] theorem U4(i a b:Nat):(AV.mp i a b).cells=[.mp i a b]:=rfl
@[simp] theorem Rq:AV.ij.cells=[.ij]:=rfl
@[simp] theorem Rr:AV.mD.cells=[.mD]:=rfl
@[simp] theorem U5(f:FuncId)(l:List AV):(AV.fn f l).cells=[.fn f l]:=rfl
@[simp] theorem Rs(l:List AV):(AV.agg l).cS=false:=rfl
@[simp] theorem Rt(k:IntKind)(n:Int):(AV.int k n).cS=true:=rfl
@[simp] theorem PY(b:Bool):(AV.bool b).cS=true:=rfl
@[simp] theorem Ru(b:ByteArray):(AV.str b).cS=true:=rfl
@[simp] theorem TA(b:Bool)(l:List AV):(AV.sl b l).cS=true:=rfl
@[simp] theorem TC(i a b:Nat):(AV.ms i a b).cS=true:=rfl
@[simp] theorem TF(i a b:Nat):(AV.mp i a b).cS=true:=rfl
@[simp] theorem PZ:AV.ij.cS=true:=rfl
@[simp] theorem P0:AV.mD.cS=true:=rfl
@[simp] theorem TG(f:FuncId)(l:List AV):(AV.fn f l).cS=true:=rfl
end
theorem Fs(t:Nat)(r:List Nat)(bI:Env):iF (t::r) bI=(match bH bI t with
  |some x=>(t,x)::iF r bI
  |none=>iF r bI):=by
 simp only[iF,List.filterMap_cons]
 cases bH bI t<;>rfl
end Go.Am
end
section
namespace Go.Am
open Go.RowKit
mutual
inductive Co (ok:Nat->Bool) (π:Nat->Nat):AV->AV->Prop
 |c {x:AV} (h:x.dv=true):Co ok π x x
 |s {b:Bool} {l:List AV} (h:eG l=true):Co ok π (.sl false l) (.sl b l)
 |l {b:Bool} {xs ys:List AV} (h:rH ok π xs ys):Co ok π (.sl false xs) (.sl b ys)
 |n {id a:Nat}:Co ok π (.ms id a 0) (.sl true [])
 |mp {id fq el off:Nat} (h:ok id=true) (h':π id=fq):Co ok π (.mp id el off) (.mp fq el off)
 |y {id fq:Nat} (h:ok id=true) (h':π id=fq):Co ok π (.kt id) (.kt fq)
 |ms {id fq a b:Nat} (h:ok id=true) (h':π id=fq):Co ok π (.ms id a b) (.ms fq a b)
 |mc {id fq a b c:Nat} (h:ok id=true) (h':π id=fq):Co ok π (.mc id a b c) (.mc fq a b c)
 |mf {id fq a b b' c:Nat} (h:ok id=true) (h':π id=fq) (hb:b=b'):Co ok π (.ms id a b) (.mc fq a b' c)
 |e {id fq a b b':Nat} (h:ok id=true) (h':π id=fq) (hb:b=b'):Co ok π (.ms id a b) (.ms fq a b')
 |a {xs ys:List AV} (h:rH ok π xs ys):Co ok π (.agg xs) (.agg ys)
 |t {xs ys:List AV} (h:rH ok π xs ys):Co ok π (.dW xs) (.dW ys)
 |f {g:FuncId} {xs ys:List AV} (h:rH ok π xs ys):Co ok π (.fn g xs) (.fn g ys)
inductive rH (ok:Nat->Bool) (π:Nat->Nat):List AV->List AV->Prop
 |z:rH ok π [] []
 |k {x y:AV} {xs ys:List AV} (h:Co ok π x y) (hs:rH ok π xs ys):rH ok π (x::xs) (y::ys)
 |r {xs:List AV} (h:eG xs=true):rH ok π xs xs
 |p {xs ys xs' ys':List AV} (h:rH ok π xs ys) (h':rH ok π xs' ys'):rH ok π (xs++xs') (ys++ys')
end
inductive Ai (ok:Nat->Bool) (π:Nat->Nat):gp->gp->Prop
 |cells {cz:Nat} {xs ys:List AV} (h:rH ok π xs ys):Ai ok π (.cells cz xs) (.cells cz ys)
 |cut {cz:Nat} {xs ys zs:List AV} (h:rH ok π xs ys):Ai ok π (.cells cz xs) (.cells cz (ys++zs))
 |gb:Ai ok π .gb .gb
 |loop {ks:List Nat} {xs ys:List AV} {N:Nat} {ps:List Tmp} {a b:Code} {st:LoopState} {pd:Option Code} (h:rH ok π xs ys):Ai ok π (.loop ⟨zx ks xs,N,ps,a,b,st,pd⟩) (.loop ⟨zx ks ys,N,ps,a,b,st,pd⟩)
theorem mj{l:List AV}(h:eG l=true){i:Nat}{x:AV}(hx:l[i]? =some x):x.dv=true:=dY.1 h x (gx hx)
section
variable {ok:Nat->Bool} {π:Nat->Nat} {G G':bZ}
theorem rH.length: ∀{xs ys:List AV},rH ok π xs ys->xs.length=ys.length
 |_,_,.z=>rfl
 |_,_,.k _ hs=>by simp[hs.length]
 |_,_,.r _=>rfl
 |_,_,.p h h'=>by simp[h.length,h'.length]
theorem rH.get: ∀{xs ys:List AV},rH ok π xs ys-> ∀{i:Nat}{x:AV},xs[i]? =some x-> ∃y,ys[i]? =some y/\Co ok π x y
 |_,_,.z,i,x,h=>by simp at h
 |_,_,.k h0 hs,i,x,h=>by
  cases i with
  |zero=>simp at h;subst h;exact⟨_,rfl,h0⟩
  |succ i=>exact hs.get (by simpa using h)
 |_,_,.r hc,i,x,h=>⟨x,h,.c (mj hc h)⟩
 |_,_,.p (xs:=xs) (ys:=ys) (xs':=xs') (ys':=ys') h1 h2,i,x,h=>by
  have hl:=h1.length
  by_cases hi:i<xs.length
  ·rw[nq hi]at h
   obtain⟨y,hy,hc⟩:=h1.get h
   exact⟨y,by rw[nq (by omega)];exact hy,hc⟩
  ·rw[pn (by omega)]at h
   obtain⟨y,hy,hc⟩:=h2.get h
   exact⟨y,by rw[pn (by omega),<-hl];exact hy,hc⟩
structure Seen (ok:Nat->Bool) (π:Nat->Nat) (G G':bZ):Prop where
 gD: ∀b o v,G.gD b o=some v->G'.gD b o=some v
 own: ∀id r,ok id=true->G.own (π id)=some r->G'.own id=some r
theorem Co.cells{x y:AV}(h:Co ok π x y):rH ok π x.cells y.cells:=by
 have one: ∀{x y:AV},x.cells=[x]->y.cells=[y]->Co ok π x y->rH ok π x.cells y.cells:=λh1 h2 h=>by rw[h1,h2];exact .k h .z
 cases h with
 |c hc=>exact .r (dY.2 (lf hc))
 |s hc=>exact one rfl rfl (.s hc)
 |l hc=>exact one rfl rfl (.l hc)
 |n=>exact one rfl rfl .n
 |mp h h'=>exact one rfl rfl (.mp h h')
 |y h h'=>exact one rfl rfl (.y h h')
 |ms h h'=>exact one rfl rfl (.ms h h')
 |mc h h'=>exact one rfl rfl (.mc h h')
 |mf h h' hb=>exact one rfl rfl (.mf h h' hb)
 |e h h' hb=>exact one rfl rfl (.e h h' hb)
 |a h=>exact h
 |t h=>exact one rfl rfl (.t h)
 |f h=>exact one rfl rfl (.f h)
theorem Co.cS{x y:AV}(h:Co ok π x y):x.cS=y.cS:=by cases h<;>rfl
theorem rH.di: ∀{xs ys:List AV},rH ok π xs ys->rH ok π (di xs) (di ys)
 |_,_,.z=>.z
 |_,_,.k h hs=>by rw[iV,iV];exact .p h.cells hs.di
 |_,_,.r hc=>.r (dY.2 λy hy=>by
  rw[Go.Am.di,sL]at hy
  obtain⟨e,he,hx⟩:=hy
  exact lf (dY.1 hc e he) y hx)
 |_,_,.p h h'=>by rw[dx,dx];exact .p h.di h'.di
theorem rH.mem{xs ys:List AV}(h:rH ok π xs ys){x:AV}(hx:x∈xs): ∃y∈ys,Co ok π x y:=by
 obtain⟨i,hi,rfl⟩:=pA hx
 obtain⟨y,hy,hc⟩:=h.get (dC hi)
 exact⟨y,gx hy,hc⟩
theorem Co.V(hG:Seen ok π G G'){x y:AV}{v:Value}(hv:V G y v):Co ok π x y->V G' x v:=by
 induction hv generalizing x with
 |any v=>intro h;cases h;exact .any _
 |bool b=>intro h;cases h<;>exact .bool b
 |int k n=>intro h;cases h<;>exact .int k n
 |str s=>intro h;cases h<;>exact .str s
 |ij=>intro h;cases h<;>exact .ij
 |mD=>intro h;cases h<;>exact .mD
 |slnil full bQ cap hf hb=>
  intro h
  cases h with
  |c=>exact .slnil full bQ cap hf hb
  |s=>exact .slnil false bQ cap (λe=>by cases e) hb
  |l hl=>
   rename_i xs
   have:xs=[]:=JO (by simpa using hl.length)
   subst this
   exact .slnil false bQ cap (λe=>by cases e) hb
  |n=>exact .gn _ _ _ _ (hf rfl)
 |sl full elems b off cz cap val jG jB dS jg gF hV ih=>
  intro h
  cases h with
  |c hc=>exact .sl full elems b off cz cap val jG jB dS jg (λk hk=>hG.gD _ _ _ (gF k hk)) λk x hx=>(hV k x hx).dv hG.gD (by
    have hc:eG elems=true:=by simpa[AV.dv]using hc
    have hm:x∈di elems:=gx hx
    rw[di,sL]at hm
    obtain⟨e,he,hx⟩:=hm
    exact lf (dY.1 hc e he) x hx)
  |s hc=>exact .sl false elems b off cz cap val jG (λe=>by cases e) dS jg (λk hk=>hG.gD _ _ _ (gF k hk)) λk x hx=>(hV k x hx).dv hG.gD (by
    have hm:x∈di elems:=gx hx
    rw[di,sL]at hm
    obtain⟨e,he,hx⟩:=hm
    exact lf (dY.1 hc e he) x hx)
  |l hl=>
   rw[<-hl.length]
   exact .sl false _ b off cz cap val (by rw[hl.length];exact jG) (λe=>by cases e) (λx hx=>by
     obtain⟨y,hy,hc⟩:=hl.mem hx
     rw[hc.cells.length];exact dS y hy) (λx hx=>by
     obtain⟨y,hy,hc⟩:=hl.di.mem hx
     rw[hc.cS];exact jg y hy) (λk hk=>hG.gD _ _ _ (gF k (by rw[<-hl.length];exact hk))) λk x hx=>by
     obtain⟨y,hy,hc⟩:=hl.di.get hx
     exact ih k y hy hc
  |n=>exact .gn _ _ _ _ (by have:=jB rfl;simpa using this)
 |ip cells b off val gF hV ih=>
  intro h
  cases h with
  |c hc=>exact .ip cells b off val (λk hk=>hG.gD _ _ _ (gF k hk)) λk x hx=>(hV k x hx).dv hG.gD (mj (by simpa[AV.dv]using hc) hx)
 |mp id el off r h0=>
  intro h
  cases h with
  |c hc=>cases hc
  |mp ho hp=>subst hp;exact .mp _ _ _ r (hG.own _ _ ho h0)
 |ms id bL len cap r addr h0 ep eP ha=>
  intro h
  cases h with
  |c hc=>cases hc
  |ms ho hp=>subst hp;exact .ms _ _ _ _ r addr (hG.own _ _ ho h0) ep eP ha
  |e ho hp hb=>subst hp;subst hb;exact .ms _ _ _ _ r addr (hG.own _ _ ho h0) ep eP ha
 |gn id bL cap bQ h0=>
  intro h
  cases h with
  |c hc=>cases hc
  |ms ho hp=>exact .gn _ _ _ _ h0
  |e ho hp hb=>subst hb;exact .gn _ _ _ _ h0
 |mc id bL len cap r addr h0 ep eP ha=>
  intro h
  cases h with
  |c hc=>cases hc
  |mc ho hp=>subst hp;exact .mc _ _ _ _ r addr (hG.own _ _ ho h0) ep eP ha
  |mf ho hp hb=>subst hp;subst hb;exact .ms _ _ _ _ r addr (hG.own _ _ ho h0) ep eP ha
 |mH id bL bQ=>
  intro h
  cases h with
  |c hc=>cases hc
  |mc ho hp=>exact .mH _ _ _
  |mf ho hp hb=>subst hb;exact .gn _ _ _ _ rfl
 |fn f fH vs dt h0 ih=>
  intro h
  cases h with
  |c hc=>exact .fn f fH vs dt λi x y hx hy=>(h0 i x y hx hy).dv hG.gD (mj (by simpa[AV.dv]using hc) hx)
  |f hl=>exact .fn f _ vs (by rw[hl.length];exact dt) λi x y hx hy=>let⟨z,hz,hc⟩:=hl.get hx;ih i z y hz hy hc
 |kt id r h0=>
  intro h
  cases h with
  |c hc=>cases hc
  |y ho hp=>subst hp;exact .kt _ r (hG.own _ _ ho h0)
 |agg cs vs dt h0 ih=>
  intro h
  cases h with
  |c hc=>exact .agg cs vs dt λi x y hx hy=>(h0 i x y hx hy).dv hG.gD (mj (by simpa[AV.dv]using hc) hx)
  |a hl=>exact .agg _ vs (by rw[hl.length];exact dt) λi x y hx hy=>let⟨z,hz,hc⟩:=hl.get hx;ih i z y hz hy hc
 |dW cs vs dt h0 ih=>
  intro h
  cases h with
  |c hc=>exact .dW cs vs dt λi x y hx hy=>(h0 i x y hx hy).dv hG.gD (mj (by simpa[AV.dv]using hc) hx)
  |t hl=>exact .dW _ vs (by rw[hl.length];exact dt) λi x y hx hy=>let⟨z,hz,hc⟩:=hl.get hx;ih i z y hz hy hc
theorem Ai.holds(hG:Seen ok π G G'){b b':gp}{r:ux}{o:Obj}(h:Ai ok π b b')(hh:Holds G r b' o):Holds G' r b o:=by
 cases h with
 |gb=>cases hh;exact .gb
 |loop hl=>
  cases hh with
  |loop _ fn tmps d eo hV=>
   refine .loop _ fn tmps d eo λt x hx=>?_
   have key: ∀{ks:List Nat}{xs ys:List AV},xs.length=ys.length->(∀(i:Nat)(x:AV),xs[i]? =some x-> ∃y:AV,ys[i]? =some y/\Co ok π x y)-> ∀t x,bH (zx ks xs) t=some x-> ∃y,bH (zx ks ys) t=some y/\Co ok π x y:=by
    intro ks
    induction ks with
    |nil=>intro xs ys _ _ t x hx;simp[zx,cR,cG]at hx
    |cons k r ih=>
     intro xs ys dt hc t x hx
     cases xs with
     |nil=>simp[zx,cR,cG]at hx
     |cons x0 xs=>
      cases ys with
      |nil=>simp at dt
      |cons y0 ys=>
       simp only[zx,cR,cG]at hx |-
       split at hx
       ·rename_i e;cases hx;subst e
        obtain⟨y,hy,Y1⟩:=hc 0 _ rfl
        simp at hy;subst hy
        exact⟨y0,by simp,Y1⟩
       ·rename_i e
        rw[if_neg e]
        exact ih (by simpa using dt) (λi x hx=>by simpa using hc (i+1) x (by simpa using hx)) t x hx
   obtain⟨y,hy,Y1⟩:=key hl.length (λi x hx=>hl.get hx) t x hx
   obtain⟨h1,h2⟩:=hV t y hy
   exact⟨h1,Y1.V hG h2⟩
 |cells hl=>
  cases hh with
  |cells _ _ cs e eo dS h0 iz jg eP hV=>
   refine .cells _ _ cs e eo dS h0 (λx hx=>?_) (λx hx=>?_) (by rw[hl.length];exact eP) λk x hx=>?_
   ·obtain⟨y,hy,hc⟩:=hl.mem hx
    rw[hc.cells.length];exact iz y hy
   ·obtain⟨y,hy,hc⟩:=hl.di.mem hx
    rw[hc.cS];exact jg y hy
   ·obtain⟨y,hy,hc⟩:=hl.di.get hx
    obtain⟨v,hv,U6⟩:=hV k y hy
    exact⟨v,hv,hc.V hG U6⟩
 |cut hl=>
  cases hh with
  |cells _ _ cs e eo dS h0 iz jg eP hV=>
   refine .cells _ _ cs e eo dS h0 (λx hx=>?_) (λx hx=>?_) (vS (QQ (zp _ (by rw[hl.length,kc];exact Nat.le_add_right _ _)) _) eP) λk x hx=>?_
   ·obtain⟨y,hy,hc⟩:=hl.mem hx
    rw[hc.cells.length];exact iz y (CF _ hy)
   ·obtain⟨y,hy,hc⟩:=hl.di.mem hx
    rw[hc.cS];exact jg y (by rw[dx];exact CF _ hy)
   ·obtain⟨y,hy,hc⟩:=hl.di.get hx
    obtain⟨v,hv,U6⟩:=hV k y (by rw[dx,nq (fM.1 hy).1];exact hy)
    exact⟨v,hv,hc.V hG U6⟩
theorem Ai.nil{b:gp}{cz:Nat}(h:Ai ok π b (.cells cz [])):b=.cells cz []:=by
 generalize hb:gp.cells cz []=b' at h
 cases h with
 |gb=>cases hb
 |loop hl=>cases hb
 |cells hl=>
  cases hb
  rename_i xs
  have:xs=[]:=JO (by simpa using hl.length)
  rw[this]
 |cut hl=>
  injection hb with h1 h2
  subst h1
  rename_i xs ys zs
  have h3:ys=[]:=(List.append_eq_nil_iff.1 h2.symm).1
  have:xs=[]:=JO (by rw[hl.length,h3];rfl)
  rw[this,<-h2]
theorem rH.V(hG:Seen ok π G G'){xs ys:List AV}{vs:Array Value}(h:rH ok π xs ys)(hv:VL G ys vs):VL G' xs vs:=
 ⟨by rw[h.length];exact hv.1,λi x v hx hi=>let⟨y,hy,hc⟩:=h.get hx;hc.V hG (hv.2 i y v hy hi)⟩
end
def has(h:List (Nat×gp))(id:Nat):Bool:=(bH h id).isSome
theorem ib{h:List (Nat×gp)}{id:Nat}:has h id=true↔ ∃b,bH h id=some b:=by
 unfold has;exact zY
def gj(bQ:Nat)(h:List (Nat×gp))(id:Nat):Bool:=Nat.blt id bQ||has h id
structure IntoM (bQ:Nat) (π:Nat->Nat) (S2 s:St):Prop where
 heap: ∀id b,bH S2.heap id=some b->(∃b',bH s.heap (π id)=some b'/\Ai (gj bQ S2.heap) π b b')\/(bQ<=id/\s.bS<=π id/\ ∃cz,0<cz/\b=.cells cz [])
 low: ∀id,id<bQ->π id=id
 inj: ∀id fq b b',bH S2.heap id=some b->bH S2.heap fq=some b'->π id=π fq->id=fq\/s.bS<=π id
 lt: ∀id b,bH S2.heap id=some b->id<S2.bS
 cb:bQ<=S2.bS
structure pU (bQ:Nat) (π:Nat->Nat) (S2 s:St):Prop extends IntoM bQ π S2 s where
 gb: ∀id,bH s.heap id=some .gb->id<bQ/\bH S2.heap id=some .gb
def fD(bQ:Nat)(π:Nat->Nat)(h:List (Nat×gp))(G:bZ):bZ:={gD:=G.gD,own:=λid=>if gj bQ h id=true then G.own (π id)else none}
section
variable {bQ:Nat} {π:Nat->Nat} {S2 s s0:St} {G G0:bZ} {w w0:World}
theorem Aj:Seen (gj bQ S2.heap) π G (fD bQ π S2.heap G):=
 ⟨λ_ _ _ h=>h,λid r ho hr=>by simp only[fD,ho,if_true];exact hr⟩
theorem nG{h:List (Nat×gp)}{id:Nat}(hl:id<bQ):gj bQ h id=true:=by simp[gj,hl]
theorem pV{h:List (Nat×gp)}{id:Nat}{b:gp}(hg:bH h id=some b):gj bQ h id=true:=by
 simp[gj,ib.2 ⟨b,hg⟩]
theorem wi{h:List (Nat×gp)}{id:Nat}{b:gp}(hg:bH h id=some b):(fD bQ π h G).own id=G.own (π id):=by
 simp only[fD,pV hg,if_true]
theorem IntoM.iE(h:IntoM bQ π S2 s)(hs:eA G s w):eA (fD bQ π S2.heap G) S2 w:=by
 refine⟨hs.gD,λid b hg=>?_,λid fq b b' r r' h1 h2 o1 o2 eJ=>?_,λid b r o hg ho=>?_,λid jC=>?_,h.lt⟩
 ·rw[wi hg]
  rcases h.heap id b hg with⟨b',mT,hc⟩|⟨_,hn,cz,h0,he⟩
  ·rcases hs.heap _ _ mT with⟨r,o,e1,e2,e3⟩|⟨e1,cz,h0,e2⟩
   ·exact .inl ⟨r,o,e1,e2,hc.holds Aj e3⟩
   ·refine .inr ⟨e1,cz,h0,?_⟩
    subst e2
    exact hc.nil
  ·exact .inr ⟨hs.cq _ hn,cz,h0,he⟩
 ·rw[wi h1]at o1
  rw[wi h2]at o2
  rcases h.heap id b h1 with⟨c,hc,_⟩|⟨_,hn,_⟩
  ·rcases h.heap fq b' h2 with⟨c',QM,_⟩|⟨_,hn,_⟩
   ·refine hs.apart _ _ c c' r r' hc QM o1 o2 λe=>?_
    rcases h.inj id fq b b' h1 h2 e with e|e
    ·exact eJ e
    ·have:=hs.lt _ _ hc;omega
   ·rw[hs.cq _ hn]at o2;cases o2
  ·rw[hs.cq _ hn]at o1;cases o1
 ·rw[wi hg]at ho
  rcases h.heap id b hg with⟨c,hc,_⟩|⟨_,hn,_⟩
  ·exact hs.clear _ c r o hc ho
  ·rw[hs.cq _ hn]at ho;cases ho
 ·have hb:=h.cb
  have:gj bQ S2.heap id=false:=by
   cases hq:gj bQ S2.heap id with
   |false=>rfl
   |true=>
    simp only[gj,sS,qZ]at hq
    rcases hq with hq|hq
    ·omega
    ·obtain⟨b,hb⟩:=ib.1 hq
     have:=h.lt id b hb
     omega
  simp[fD,this]
theorem pU.ext(h:pU bQ π S2 s)(h0:eA G0 s0 w0)(hx:Ext G0 s0 w0 G s w)(hs:eA G s w)(hb:s0.bS<=bQ):Ext G0 s0 w0 (fD bQ π S2.heap G) S2 w:=by
 have lo: ∀id,id<bQ->(fD bQ π S2.heap G).own id=G.own id:=λid hl=>by simp only[fD,nG hl,if_true,h.low id hl]
 refine⟨⟨hx.le.gD,λid r ho=>?_⟩,hx.os,hx.tape,hx.output,hx.size,hx.keep,hx.jh,λid r ho=>?_,λid b hg=>?_,vS hb h.cb,λid hd=>?_,λid hl ho=>?_,hx.drawn⟩
 ·have:id<s0.bS:=by
   by_cases hq:id<s0.bS
   ·exact hq
   ·rw[h0.cq id (by omega)]at ho;cases ho
  rw[lo id (by omega)];exact hx.le.own _ _ ho
 ·by_cases hl:id<bQ
  ·rw[lo id hl]at ho;exact hx.iK id r ho
  ·have CB:gj bQ S2.heap id=true:=by
    cases hq:gj bQ S2.heap id with
    |true=>rfl
    |false=>simp[fD,hq]at ho
   have hh:has S2.heap id=true:=by
    simp only[gj,sS,qZ]at CB
    rcases CB with hq|hq
    ·exact absurd hq hl
    ·exact hq
   obtain⟨b,hg⟩:=ib.1 hh
   rw[wi hg]at ho
   rcases h.heap id b hg with⟨c,hc,_⟩|⟨_,hn,_⟩
   ·rcases hx.iK _ r ho with q|q
    ·rcases hx.ids _ c hc with⟨c0,q0⟩|q0
     ·exact .inr (.inr ⟨_,c0,r,q0,q,rfl⟩)
     ·rw[h0.cq _ q0]at q;cases q
    ·exact .inr q
   ·rw[hs.cq _ hn]at ho;cases ho
 ·by_cases hl:id<bQ
  ·rcases h.heap id b hg with⟨c,hc,_⟩|⟨hn,_⟩
   ·rw[h.low id hl]at hc;exact hx.ids id c hc
   ·omega
  ·exact .inr (by omega)
 ·exact(h.gb id (hx.gb id hd)).2
 ·rw[lo id (by omega)];exact hx.stay id hl ho
theorem pU.lQ(h:pU bQ π S2 s): ∀{ds:List Deferred},om G s ds->om (fD bQ π S2.heap G) S2 ds
 | [],_=>trivial
 |_::_,⟨⟨id,r,a,b,c,d⟩,hr⟩=>⟨⟨id,r,(h.gb id a).2,by simp only[fD];rw[if_pos (nG (h.gb id a).1),h.low id (h.gb id a).1];exact b,c,d⟩,h.lQ hr⟩
end
structure I2 (bQ:Nat) (π:Nat->Nat) (E2:Env) (S2:St) (bI:Env) (s:St):Prop where
 st:pU bQ π S2 s
 bI: ∀t x,bH E2 t=some x-> ∃y,bH bI t=some y/\Co (gj bQ S2.heap) π x y
section
variable {P:Program} {N:Nat} {ρ:Option Nat} {Q Q':Exit->Env->St->Prop} {bI E2:Env} {s S2:St} {bQ:Nat} {π:Nat->Nat}
theorem I2.now(h:I2 bQ π E2 S2 bI s){G:bZ}{a:Act}{w:World}(Ft: ∀id,ρ=some id->id<bQ)(hn:wB G N ρ bI s a w):wB (fD bQ π S2.heap G) N ρ E2 S2 a w:=by
 refine⟨h.st.iE hn.iE,λt x hx=>?_,hn.size,h.st.lQ hn.lQ,λid e=>?_⟩
 ·obtain⟨y,hy,hc⟩:=h.bI t x hx
  exact⟨(hn.bI t y hy).1,hc.V Aj (hn.bI t y hy).2⟩
 ·obtain⟨r,hr⟩:=hn.known id e
  exact⟨r,by simp only[fD];rw[if_pos (nG (Ft id e)),h.st.low id (Ft id e)];exact hr⟩
def bY{σ τ:Type}(body:σ->Option (σ⊕τ)):Nat->σ->Option τ
 |0,_=>none
 |n+1,st=>match body st with
  |some (.inl zl)=>bY body n zl
  |some (.inr r)=>some r
  |none=>none
end
end Go.Am
end
section
namespace Go.Am
open Go.RowKit
def okF(fr:Nat->Bool)(h:List (Nat×gp))(id:Nat):Bool:=has h id&&!fr id
structure Fits (π σ:Nat->Nat) (fr:Nat->Bool) (H0 H1 s s':St):Prop where
 Ol: ∀id b,bH H0.heap id=some b-> ∃b',bH s.heap (π id)=some b'/\Ai (gj 0 H0.heap) π b b'
 inj: ∀id fq b b',bH H0.heap id=some b->bH H0.heap fq=some b'->π id=π fq->id=fq
 lt: ∀id b,bH H0.heap id=some b->id<H0.bS
 out: ∀id b,bH s'.heap id=some b->fr id=false-> ∃b',bH H1.heap (σ id)=some b'/\Ai (okF fr s'.heap) σ b b'/\(id<s.bS->has H0.heap (σ id)=true/\π (σ id)=id)
 keep: ∀id b,bH s'.heap id=some b->fr id=true->bH s.heap id=some b/\ ∀i b',bH H0.heap i=some b'->π i≠id
 Y2: ∀id fq b b',bH s'.heap id=some b->bH s'.heap fq=some b'->fr id=false->fr fq=false->σ id=σ fq->id=fq
 lt': ∀id b,bH s'.heap id=some b->id<s'.bS
 bS:s.bS<=s'.bS
 gb: ∀id,bH s.heap id=some .gb->bH s'.heap id=some .gb
def kI(bS:Nat)(σ:Nat->Nat)(h:List (Nat×gp))(G G':bZ):bZ:={gD:=G'.gD,own:=λid=>if id<bS then G.own id else if has h id=true then G'.own (σ id)else none}
theorem Fits.P2{π σ:Nat->Nat}{fr:Nat->Bool}{H0 H1 s s':St}(hf:Fits π σ fr H0 H1 s s'):IntoM 0 π H0 s:=
 ⟨λid b hg=>.inl (hf.Ol id b hg),λid hl=>by omega,λid fq b b' h1 h2 e=>.inl (hf.inj id fq b b' h1 h2 e),λid b hg=>hf.lt id b hg,zX _⟩
theorem xG{H0 H1 s s':St}{v0 v:AV}{π σ:Nat->Nat}{fr:Nat->Bool}{G:bZ}{w w':World}{e:Ending}(hf:Fits π σ fr H0 H1 s s')(hv:Co (okF fr s'.heap) σ v v0)(hs:eA G s w)
  (hg:vX (fD 0 π H0.heap G) H0 w (λy t=>y=v0/\t=H1) e w'):vX G s w (λy t=>y=v/\t=s') e w':=by
 have Rv: ∀{id b},bH H0.heap id=some b->(fD 0 π H0.heap G).own id=G.own (π id):=λhg=>wi hg
 have P3: ∀{id r},(fD 0 π H0.heap G).own id=some r-> ∃b,bH H0.heap id=some b:=λ{id r}ho=>by
  cases hq:gj 0 H0.heap id with
  |false=>simp[fD,hq]at ho
  |true=>
   simp only[gj,sS,qZ,Nat.not_lt_zero,false_or]at hq
   exact ib.1 hq
 have wE: ∀b,lI (fD 0 π H0.heap G) H0 b->lI G s b:=λb ⟨id,blk,r,g1,g2,g3⟩=>by
  rw[Rv g1]at g2
  obtain⟨b',mT,_⟩:=hf.Ol id blk g1
  exact⟨π id,b',r,mT,g2,g3⟩
 obtain⟨val,G1,y,t,rfl,hV,hS,hE,rfl,rfl⟩:=hg
 have KY: ∀{id},id<s.bS->(kI s.bS σ s'.heap G G1).own id=G.own id:=λhl=>by simp[kI,hl]
 have P4: ∀{id b},¬id<s.bS->bH s'.heap id=some b->(kI s.bS σ s'.heap G G1).own id=G1.own (σ id):=λ{id b}hl hg=>by
  simp[kI,hl,ib.2 ⟨_,hg⟩]
 have I3: ∀{id b},bH s'.heap id=some b->fr id=false->(kI s.bS σ s'.heap G G1).own id=G1.own (σ id):=λ{id b}hg rI=>by
  by_cases hl:id<s.bS
  ·rw[KY hl]
   obtain⟨_,_,_,hq⟩:=hf.out id b hg rI
   obtain⟨h1,h2⟩:=hq hl
   obtain⟨c,hc⟩:=ib.1 h1
   have h3:=Rv hc
   rw[h2]at h3
   cases hr:G.own id with
   |none=>rw[hr]at h3;exact(hE.stay _ (hf.lt _ _ hc) h3).symm
   |some r=>rw[hr]at h3;exact(hE.le.own _ _ h3).symm
  ·exact P4 hl hg
 have ep:rC G (kI s.bS σ s'.heap G G1):=⟨λb o v hi=>hE.le.gD b o v hi,λid r ho=>by
  have:id<s.bS:=by
   by_cases hq:id<s.bS
   ·exact hq
   ·rw[hs.cq id (by omega)]at ho;cases ho
  rw[KY this];exact ho⟩
 have seen:Seen (okF fr s'.heap) σ G1 (kI s.bS σ s'.heap G G1):=⟨λ_ _ _ h=>h,λid r ho hr=>by
  simp only[okF,eW,pC]at ho
  obtain⟨b,hb⟩:=ib.1 ho.1
  rw[I3 hb ho.2];exact hr⟩
 have Tu: ∀{id b r},bH s.heap id=some b->(∀i b',bH H0.heap i=some b'->π i≠id)->G.own id=some r-> ¬lI (fD 0 π H0.heap G) H0 r.block:=λ{id b r}hg eJ ho ⟨i,b',r',g1,g2,g3⟩=>by
  rw[Rv g1]at g2
  obtain⟨c,hc,_⟩:=hf.Ol i b' g1
  exact hs.apart _ _ c b r' r hc hg g2 ho (eJ i b' g1) g3
 have Df: ∀{id b},bH s'.heap id=some b->fr id=true->(kI s.bS σ s'.heap G G1).own id=G.own id:=λhg rI=>KY (hs.lt _ _ (hf.keep _ _ hg rI).1)
 have KZ: ∀{id fq b b' r r'},bH s'.heap id=some b->bH s'.heap fq=some b'->fr id=false->fr fq=true->(kI s.bS σ s'.heap G G1).own id=some r->(kI s.bS σ s'.heap G G1).own fq=some r'->r.block≠r'.block:=
  λ{id fq b b' r r'}h1 h2 f1 f2 o1 o2 e=>by
   rw[I3 h1 f1]at o1
   rw[Df h2 f2]at o2
   obtain⟨k1,k2⟩:=hf.keep _ _ h2 f2
   have U7:=Tu k1 k2 o2
   rcases hE.iK _ _ o1 with q|q|q
   ·obtain⟨c,hc⟩:=P3 q
    exact U7 ⟨_,c,r,hc,q,e⟩
   ·have:=hs.iY k1 o2
    omega
   ·rw[e]at q;exact U7 q
 refine⟨val,kI s.bS σ s'.heap G G1,v,s',rfl,hv.V seen hV,⟨hS.gD,λid b hg=>?_,λid fq b b' r r' h1 h2 o1 o2 eJ=>?_,λid b r o hg ho=>?_,λid jC=>?_,hf.lt'⟩,
  ⟨ep,hE.os,hE.tape,hE.output,hE.size,λb hb rh=>hE.keep b hb λq=>rh (wE b q),λb o u hi=>?_,λid r ho=>?_,λid b hg=>?_,hf.bS,hf.gb,λid hl ho=>by rw[KY hl];exact ho,hE.drawn⟩,rfl,rfl⟩
 ·cases rI:fr id with
  |false=>
   rw[I3 hg rI]
   obtain⟨b',mT,hc,_⟩:=hf.out id b hg rI
   rcases hS.heap _ _ mT with⟨r,o,e1,e2,e3⟩|⟨e1,cz,h0,e2⟩
   ·exact .inl ⟨r,o,e1,e2,hc.holds seen e3⟩
   ·refine .inr ⟨e1,cz,h0,?_⟩
    subst e2
    exact hc.nil
  |true=>
   rw[Df hg rI]
   obtain⟨k1,k2⟩:=hf.keep _ _ hg rI
   rcases hs.heap _ _ k1 with⟨r,o,e1,e2,e3⟩|q
   ·exact .inl ⟨r,o,e1,by rw[hE.keep _ (hs.iY k1 e1) (Tu k1 k2 e1)];exact e2,e3.mono ep⟩
   ·exact .inr q
 ·cases f1:fr id with
  |false=>
   cases f2:fr fq with
   |false=>
    rw[I3 h1 f1]at o1
    rw[I3 h2 f2]at o2
    obtain⟨c,hc,_⟩:=hf.out id b h1 f1
    obtain⟨c',QM,_⟩:=hf.out fq b' h2 f2
    exact hS.apart _ _ c c' r r' hc QM o1 o2 λe=>eJ (hf.Y2 id fq b b' h1 h2 f1 f2 e)
   |true=>exact KZ h1 h2 f1 f2 o1 o2
  |true=>
   cases f2:fr fq with
   |false=>exactλe=>KZ h2 h1 f2 f1 o2 o1 e.symm
   |true=>
    rw[Df h1 f1]at o1
    rw[Df h2 f2]at o2
    exact hs.apart id fq b b' r r' (hf.keep _ _ h1 f1).1 (hf.keep _ _ h2 f2).1 o1 o2 eJ
 ·show G1.gD r.block o=none
  cases rI:fr id with
  |false=>
   rw[I3 hg rI]at ho
   obtain⟨c,hc,_⟩:=hf.out id b hg rI
   exact hS.clear _ c r o hc ho
  |true=>
   rw[Df hg rI]at ho
   obtain⟨k1,k2⟩:=hf.keep _ _ hg rI
   cases hi:G1.gD r.block o with
   |none=>rfl
   |some u=>
    rcases hE.jh _ _ _ hi with q|q|q
    ·have q':G.gD r.block o=some u:=q
     rw[hs.clear id b r o k1 ho]at q';cases q'
    ·have:=hs.iY k1 ho;omega
    ·exact absurd q (Tu k1 k2 ho)
 ·have hc:=hf.bS
  have hn:has s'.heap id=false:=by
   cases hq:has s'.heap id with
   |false=>rfl
   |true=>
    obtain⟨b,hb⟩:=ib.1 hq
    have:=hf.lt' id b hb
    omega
  have: ¬id<s.bS:=by omega
  simp[kI,this,hn]
 ·rcases hE.jh b o u hi with q|q|q
  ·exact .inl q
  ·exact .inr (.inl q)
  ·exact .inr (.inr (wE b q))
 ·by_cases hl:id<s.bS
  ·rw[KY hl]at ho;exact .inl ho
  ·have hh:has s'.heap id=true:=by
    cases hq:has s'.heap id with
    |true=>rfl
    |false=>simp[kI,hl,hq]at ho
   obtain⟨b,hb⟩:=ib.1 hh
   rw[P4 hl hb]at ho
   rcases hE.iK _ _ ho with q|q|q
   ·obtain⟨c,hc⟩:=P3 q
    exact .inr (.inr (wE _ ⟨_,c,r,hc,q,rfl⟩))
   ·exact .inr (.inl q)
   ·exact .inr (.inr (wE _ q))
 ·cases rI:fr id with
  |false=>
   by_cases hl:id<s.bS
   ·obtain⟨_,_,_,hq⟩:=hf.out id b hg rI
    obtain⟨h1,h2⟩:=hq hl
    obtain⟨c,hc⟩:=ib.1 h1
    obtain⟨b',mT,_⟩:=hf.Ol _ c hc
    rw[h2]at mT
    exact .inl ⟨b',mT⟩
   ·exact .inr (by omega)
  |true=>exact .inl ⟨b,(hf.keep _ _ hg rI).1⟩
theorem BA{P:Program}{f:FuncId}{cn args:List AV}{H0 H1 s s':St}{v0 v:AV}{π σ:Nat->Nat}{fr:Nat->Bool}(h:dJ P f cn H0 λy t=>y=v0/\t=H1)(hf:Fits π σ fr H0 H1 s s')
  (ha:rH (gj 0 H0.heap) π cn args) (hv:Co (okF fr s'.heap) σ v v0):dJ P f args s λy t=>y=v/\t=s':=λG w vs hs CH=>
 (h _ w vs (hf.P2.iE hs) (ha.V Aj CH)).mono λ_ _ hg=>xG hf hv hs hg
theorem BB{P:Program}{id:Nat}{cn args:List AV}{H0 H1 s s':St}{v0 v:AV}{π σ:Nat->Nat}{fr:Nat->Bool}(h:iM P id cn H0 λy t=>y=v0/\t=H1)(jC:has H0.heap id=true)(hf:Fits π σ fr H0 H1 s s')
  (ha:rH (gj 0 H0.heap) π cn args) (hv:Co (okF fr s'.heap) σ v v0):iM P (π id) args s λy t=>y=v/\t=s':=λo G w r vs hs ho CH=>by
 obtain⟨b,hb⟩:=ib.1 jC
 obtain⟨fn,tmps,assign,body,h1,h2⟩:=h o _ w r vs (hf.P2.iE hs) (by rw[wi hb];exact ho) (ha.V Aj CH)
 exact⟨fn,tmps,assign,body,h1,h2.mono λ_ _ hg=>xG hf hv hs hg⟩
mutual
inductive Fz (id:Nat) (elems:List AV):AV->AV->Prop
 |r (x:AV):Fz id elems x x
 |m {bL len:Nat} {l:List AV} (hl:bL+len<=elems.length) (he:(elems.drop bL).take len=l):Fz id elems (.sl false l) (.ms id bL len)
 |o {e:AV} {cs:List AV} (he:elems=[e]) (hc:e.cells=cs):Fz id elems (.ip cs) (.mp id 0 0)
 |a {xs ys:List AV} (h:zm id elems xs ys):Fz id elems (.agg xs) (.agg ys)
 |t {xs ys:List AV} (h:zm id elems xs ys):Fz id elems (.dW xs) (.dW ys)
 |f {g:FuncId} {xs ys:List AV} (h:zm id elems xs ys):Fz id elems (.fn g xs) (.fn g ys)
inductive zm (id:Nat) (elems:List AV):List AV->List AV->Prop
 |z:zm id elems [] []
 |k {x y:AV} {xs ys:List AV} (h:Fz id elems x y) (hs:zm id elems xs ys):zm id elems (x::xs) (y::ys)
 |r (xs:List AV):zm id elems xs xs
 |p {xs ys xs' ys':List AV} (h:zm id elems xs ys) (h':zm id elems xs' ys'):zm id elems (xs++xs') (ys++ys')
end
section
variable {id:Nat} {elems:List AV} {G G':bZ}
theorem zm.length: ∀{xs ys:List AV},zm id elems xs ys->xs.length=ys.length
 |_,_,.z=>rfl
 |_,_,.k _ hs=>by simp[hs.length]
 |_,_,.r _=>rfl
 |_,_,.p h h'=>by simp[h.length,h'.length]
theorem zm.get: ∀{xs ys:List AV},zm id elems xs ys-> ∀{i:Nat}{x:AV},xs[i]? =some x-> ∃y,ys[i]? =some y/\Fz id elems x y
 |_,_,.z,i,x,h=>by simp at h
 |_,_,.k h0 hs,i,x,h=>by
  cases i with
  |zero=>simp at h;subst h;exact⟨_,rfl,h0⟩
  |succ i=>exact hs.get (by simpa using h)
 |_,_,.r _,i,x,h=>⟨x,h,.r x⟩
 |_,_,.p (xs:=xs) (ys:=ys) (xs':=xs') (ys':=ys') h1 h2,i,x,h=>by
  have hl:=h1.length
  by_cases hi:i<xs.length
  ·rw[nq hi]at h
   obtain⟨y,hy,hc⟩:=h1.get h
   exact⟨y,by rw[nq (by omega)];exact hy,hc⟩
  ·rw[pn (by omega)]at h
   obtain⟨y,hy,hc⟩:=h2.get h
   exact⟨y,by rw[pn (by omega),<-hl];exact hy,hc⟩
theorem zm.mem{xs ys:List AV}(h:zm id elems xs ys){x:AV}(hx:x∈xs): ∃y∈ys,Fz id elems x y:=by
 obtain⟨i,hi,rfl⟩:=pA hx
 obtain⟨y,hy,hc⟩:=h.get (dC hi)
 exact⟨y,gx hy,hc⟩
theorem Fz.cells{x y:AV}(h:Fz id elems x y):zm id elems x.cells y.cells:=by
 cases h with
 |r=>exact .r _
 |m hl he=>exact .k (.m hl he) .z
 |o he hc=>exact .k (.o he hc) .z
 |a h=>exact h
 |t h=>exact .k (.t h) .z
 |f h=>exact .k (.f h) .z
theorem Fz.cS{x y:AV}(h:Fz id elems x y):x.cS=y.cS:=by cases h<;>rfl
theorem zm.di: ∀{xs ys:List AV},zm id elems xs ys->zm id elems (di xs) (di ys)
 |_,_,.z=>.z
 |_,_,.k h hs=>by rw[iV,iV];exact .p h.cells hs.di
 |_,_,.r _=>.r _
 |_,_,.p h h'=>by rw[dx,dx];exact .p h.di h'.di
theorem Fz.V(ep:rC G G')(hm:(∀bL len v,bL+len<=elems.length->V G (.ms id bL len) v->V G' (.sl false ((elems.drop bL).take len)) v)/\ ∀e v,elems=[e]->V G (.mp id 0 0) v->V G' (.ip e.cells) v){x y:AV}{v:Value}(hv:V G y v):Fz id elems x y->V G' x v:=by
 induction hv generalizing x with
 |fn f fH vs dt h0 ih=>
  intro h
  cases h with
  |r=>exact(V.fn f fH vs dt h0).mono ep
  |f hl=>exact .fn f _ vs (by rw[hl.length];exact dt) λi x y hx hy=>let⟨z,hz,hc⟩:=hl.get hx;ih i z y hz hy hc
 |agg cs vs dt h0 ih=>
  intro h
  cases h with
  |r=>exact(V.agg cs vs dt h0).mono ep
  |a hl=>exact .agg _ vs (by rw[hl.length];exact dt) λi x y hx hy=>let⟨z,hz,hc⟩:=hl.get hx;ih i z y hz hy hc
 |dW cs vs dt h0 ih=>
  intro h
  cases h with
  |r=>exact(V.dW cs vs dt h0).mono ep
  |t hl=>exact .dW _ vs (by rw[hl.length];exact dt) λi x y hx hy=>let⟨z,hz,hc⟩:=hl.get hx;ih i z y hz hy hc
 |any v=>intro h;cases h;exact .any v
 |bool b=>intro h;cases h;exact .bool b
 |int k n=>intro h;cases h;exact .int k n
 |str s=>intro h;cases h;exact .str s
 |ij=>intro h;cases h;exact .ij
 |mD=>intro h;cases h;exact .mD
 |slnil full bQ cap hf hb=>intro h;cases h;exact .slnil full bQ cap hf hb
 |sl full elems b off cz cap val jG jB dS jg gF hV ih=>intro h;cases h;exact(V.sl full elems b off cz cap val jG jB dS jg gF hV).mono ep
 |ip cells b off val gF hV ih=>intro h;cases h;exact(V.ip cells b off val gF hV).mono ep
 |mp id el off r h0=>
  intro h
  cases h with
  |r=>exact(V.mp id el off r h0).mono ep
  |o he hc=>rw[<-hc];exact hm.2 _ _ he (.mp _ _ _ r h0)
 |kt id r h0=>intro h;cases h;exact(V.kt id r h0).mono ep
 |ms id bL len cap r addr h0 Fu eP ha=>
  intro h
  cases h with
  |r=>exact(V.ms id bL len cap r addr h0 Fu eP ha).mono ep
  |m hl he=>rw[<-he];exact hm.1 _ _ _ hl (.ms _ _ _ _ _ _ h0 Fu eP ha)
 |gn id bL cap bQ h0=>
  intro h
  cases h with
  |r=>exact .gn _ _ _ _ h0
  |m hl he=>rw[<-he];exact hm.1 _ _ _ hl (.gn _ _ _ _ h0)
 |mc id bL len cap r addr h0 Fu eP ha=>intro h;cases h;exact(V.mc id bL len cap r addr h0 Fu eP ha).mono ep
 |mH id bL bQ=>intro h;cases h;exact .mH _ _ _
end
inductive P5 (id:Nat) (elems:List AV):gp->gp->Prop
 |r (b:gp):P5 id elems b b
 |cells {cz:Nat} {xs ys:List AV} (h:zm id elems xs ys):P5 id elems (.cells cz xs) (.cells cz ys)
theorem P5.holds{id:Nat}{elems:List AV}{G G':bZ}(ep:rC G G')(hm:(∀bL len v,bL+len<=elems.length->V G (.ms id bL len) v->V G' (.sl false ((elems.drop bL).take len)) v)/\ ∀e v,elems=[e]->V G (.mp id 0 0) v->V G' (.ip e.cells) v)
  {b b':gp} {r:ux} {o:Obj} (h:P5 id elems b b') (hh:Holds G r b' o):Holds G' r b o:=by
 cases h with
 |r=>exact hh.mono ep
 |cells hl=>
  cases hh with
  |cells _ _ cs e eo dS h0 iz jg eP hV=>
   refine .cells _ _ cs e eo dS h0 (λx hx=>?_) (λx hx=>?_) (by rw[hl.length];exact eP) λk x hx=>?_
   ·obtain⟨y,hy,hc⟩:=hl.mem hx
    rw[hc.cells.length];exact iz y hy
   ·obtain⟨y,hy,hc⟩:=hl.di.mem hx
    rw[hc.cS];exact jg y hy
   ·obtain⟨y,hy,hc⟩:=hl.di.get hx
    obtain⟨v,hv,U6⟩:=hV k y hy
    exact⟨v,hv,hc.V ep hm U6⟩
theorem Rw{P:Program}{N:Nat}{ρ:Option Nat}{Q:Exit->Env->St->Prop}{bI E2:Env}{s S2:St}{c:Code}{id cz:Nat}{elems:List AV}(hg:bH s.heap id=some (.cells cz elems))
  (hE: ∀t x,bH E2 t=some x-> ∃y,bH bI t=some y/\Fz id elems x y) (hS: ∀i b,bH S2.heap i=some b->i≠id/\ ∃b',bH s.heap i=some b'/\P5 id elems b b') (hc:S2.bS=s.bS)
  (hd: ∀i,bH s.heap i=some .gb->bH S2.heap i=some .gb) (h:lA P N ρ c Q E2 S2):lA P N ρ c Q bI s:=λG w a hn=>by
 obtain⟨G',h1,h2,h3⟩:=jQ hn.iE (bL:=0) (len:=0) hg (zX _)
 have del: ∀{i b},i≠id->bH s.heap i=some b->bH (eh s.heap id) i=some b:=λ{i b}eJ hb=>by
  rw[fw,if_neg (λe=>eJ e.symm)];exact hb
 have Rx:eA G' S2 w:=⟨h1.gD,λi b hi=>by
   obtain⟨eJ,b',mT,hf⟩:=hS i b hi
   rcases h1.heap i b' (del eJ mT)with⟨r,o,e1,e2,_⟩|⟨e1,sz,h0,e2⟩
   ·refine .inl ⟨r,o,e1,e2,?_⟩
    rcases hn.iE.heap i b' mT with⟨r',o',q1,q2,q3⟩|⟨q1,_,_,q2⟩
    ·rw[h2.le.own _ _ q1]at e1;cases e1
     rw[e2]at q2;cases q2
     exact hf.holds h2.le h3 q3
    ·rw[h2.stay i (hn.iE.lt _ _ mT) q1]at e1;cases e1
   ·refine .inr ⟨e1,sz,h0,?_⟩
    subst e2
    cases hf with
    |r=>rfl
    |cells hl=>
     rename_i xs
     have:xs=[]:=JO (by simpa using hl.length)
     rw[this],
  λi i' b b' r r' g1 g2=>by
   obtain⟨n1,c1,k1,_⟩:=hS i b g1
   obtain⟨n2,c2,k2,_⟩:=hS i' b' g2
   exact h1.apart i i' c1 c2 r r' (del n1 k1) (del n2 k2),
  λi b r o g1=>by
   obtain⟨n1,c1,k1,_⟩:=hS i b g1
   exact h1.clear i c1 r o (del n1 k1),
  λi hi=>h1.cq i (by rw[hc]at hi;exact hi),
  λi b g1=>by
   obtain⟨n1,c1,k1,_⟩:=hS i b g1
   rw[hc];exact hn.iE.lt i c1 k1⟩
 have K0:Ext G s w G' S2 w:=⟨h2.le,rfl,rfl,rfl,eu _,λ_ _ _=>rfl,h2.jh,h2.iK,λi b g1=>by
   obtain⟨n1,c1,k1,_⟩:=hS i b g1
   exact .inl ⟨c1,k1⟩,by rw[hc];exact eu _,hd,h2.stay,h2.drawn⟩
 refine lA.later h hn.iE hn.known K0 ⟨Rx,λt' x hx=>?_,hn.size,hn.lQ.ext K0,hn.known.le h2.le⟩
 obtain⟨y,hy,hf⟩:=hE t' x hx
 obtain⟨q1,q2⟩:=hn.bI _ _ hy
 exact⟨q1,hf.V h2.le h3 q2⟩
end Go.Am
end
section
namespace Go.Am
open Go.RowKit
def jc(o:Option Nat)(n:Nat):Bool:=match o with
 |some k=>Nat.beq k n
 |none=>false
theorem eQ{o:Option Nat}{n:Nat}:jc o n=true↔o=some n:=by
 unfold jc
 cases o with
 |none=>simp
 |some k=>simp[Nat.beq_eq]
end Go.Am
end
