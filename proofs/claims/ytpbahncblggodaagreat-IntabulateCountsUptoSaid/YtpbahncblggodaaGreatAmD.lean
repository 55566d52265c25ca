/- The logic AM, D: rules for generated walks, states under new names, frames, hints. -/
import Derived.Test.YtpbahncblggodaaGreatAmC
set_option linter.all false
section
namespace Go.Am
open Go.RowKit
theorem nU{β:Type}: ∀{l:List (Nat×β)}{i:Nat}{x:β},bH l i=some x->eg l i x=l
 | [],_,_,h=>by simp[cV,cM]at h
 |(k,y)::r,i,x,h=>by
  simp only[cV,cM]at h
  simp only[KW,tC]
  split at h
  ·rename_i e;subst e;cases h;simp
  ·rename_i e;rw[dM e,nU h]
def FH(g:Option (Nat×Bool))(bI:Env)(A B:Env->Prop):Prop:=match g with
 |none=>A bI
 |some (d,want)=>match bH bI d with
  |some (.bool b)=>(b=want->A (eg bI d (.bool want)))/\(b=!want->B (eg bI d (.bool (!want))))
  |some (.ec [])=>B bI
  |_=>False
theorem HQ{g:Option (Nat×Bool)}{bI:Env}{A B:Env->Prop}{A' B':Prop}(h:FH g bI A B)(ha:A bI->A')(hb:B bI->B'):FE g bI A' B':=by
 unfold FH at h
 unfold FE
 split at h
 ·exact ha h
 ·split at h
  ·rename_i b he
   simp only[he]
   refine⟨λe=>ha ?_,λe=>hb ?_⟩
   ·have:=h.1 e
    subst e
    rwa[nU he]at this
   ·have:=h.2 e
    subst e
    rwa[nU he]at this
  ·rename_i he
   simp only[he]
   exact hb h
  ·cases h
theorem yn{P:Program}{op:Op}{K K':AV->St->Prop}{bI:Env}{s:St}(h:ows P op K bI s)(hk: ∀v s',K v s'->K' v s'):ows P op K' bI s:=by
 unfold ows at h |-
 split at h
 ·split at h
  ·exact⟨h.1,h.2.mono hk⟩
  ·exact h.mono hk
  ·cases h
 ·split at h
  ·exact hk _ _ h
  ·cases h
def HR(P:Program)(l:List Oper)(K:Env->St->Prop):List Step->List (Nat×Env×AV)->Env->St->Prop
 | [],_,bI,s=>K bI s
 |.iD i note::r,tr,bI,s=>match l[i]? with
  |some o=>FH (l6 l o).guard bI (λbI=>match iX P o.op (iR (iF o) bI) s with
    |some (v,_)=>HR P l K r (if note then(i,iR (iF o) bI,v)::tr else tr) (fF o.dst v bI) s
    |none=>False) (λbI=>HR P l K r tr (fF o.dst (.ec []) bI) s)
  |none=>False
 |.ir i wS::r,tr,bI,s=>match l[i]? with
  |some o=>FH (l6 l o).guard bI (λbI=>ows P o.op (λv s'=>sN P l tr s' wS/\HR P l K r tr (fF o.dst v bI) s') (iR (iF o) bI) s) (λbI=>HR P l K r tr (fF o.dst (.ec []) bI) s)
  |none=>False
 |.alloc i::r,tr,bI,s=>match l[i]? with
  |some o=>match iX P o.op [] s with
   |some (v,s')=>HR P l K r tr (fF o.dst v bI) s'
   |none=>False
  |none=>False
theorem qY{P:Program}{l:List Oper}{K:Env->St->Prop}: ∀{bN:List Step}{tr:List (Nat×Env×AV)}{bI:Env}{s:St},HR P l K bN tr bI s->zX P l K bN tr bI s
 | [],_,_,_,h=>h
 |.iD i note::r,tr,bI,s,h=>by
  simp only[HR]at h
  simp only[zX]
  split at h
  ·rename_i o ho
   simp only[ho]
   refine HQ h (λh=>?_) (λh=>qY h)
   split at h
   ·rename_i v s' hx
    simp only[hx]
    exact qY h
   ·cases h
  ·cases h
 |.ir i wS::r,tr,bI,s,h=>by
  simp only[HR]at h
  simp only[zX]
  split at h
  ·rename_i o ho
   simp only[ho]
   exact HQ h (λh=>yn h λ_ _ h=>⟨h.1,qY h.2⟩) (λh=>qY h)
  ·cases h
 |.alloc i::r,tr,bI,s,h=>by
  simp only[HR]at h
  simp only[zX]
  split at h
  ·rename_i o ho
   simp only[ho]
   split at h
   ·rename_i v s' hx
    simp only[hx]
    exact qY h
   ·cases h
  ·cases h
structure DI where
 st:Step
 ins:Option Ins
 aaK:List Nat
def JK(l:List Oper):List Step->List DI
 | []=>[]
 |st::r=>⟨st,(l[st.idx]?).map (l6 l),(match l[st.idx]? with|some o=>iF o|none=>[])⟩::JK l r
def Bc:List (Nat×Op×Env×AV)->Nat->Option (Op×Env×AV)
 | [],_=>none
 |(k,x)::r,i=>if k=i then some x else Bc r i
def wU(P:Program)(tr:List (Nat×Op×Env×AV))(s:St):List Nat->Prop
 | []=>True
 |j::r=>(match Bc tr j with
  |some (op,e,v)=>iX P op e s=some (v,s)
  |none=>True)/\wU P tr s r
def dq(P:Program)(K:Env->St->Prop):List DI->List (Nat×Op×Env×AV)->Env->St->Prop
 | [],_,bI,s=>K bI s
 |⟨.iD i note,some n,sl⟩::r,tr,bI,s=>FH n.guard bI (λbI=>match iX P n.op (iR sl bI) s with
   |some (v,_)=>dq P K r (if note then(i,n.op,iR sl bI,v)::tr else tr) (fF n.dst v bI) s
   |none=>False) (λbI=>dq P K r tr (fF n.dst (.ec []) bI) s)
 |⟨.ir _ wS,some n,sl⟩::r,tr,bI,s=>FH n.guard bI (λbI=>ows P n.op (λv s'=>wU P tr s' wS/\dq P K r tr (fF n.dst v bI) s') (iR sl bI) s) (λbI=>dq P K r tr (fF n.dst (.ec []) bI) s)
 |⟨.alloc _,some n,_⟩::r,tr,bI,s=>match iX P n.op [] s with
  |some (v,s')=>dq P K r tr (fF n.dst v bI) s'
  |none=>False
 |⟨_,none,_⟩::_,_,_,_=>False
def O8(l:List Oper)(i:Nat):Op:=match l[i]? with
 |some o=>o.op
 |none=>.move (.const undef)
def Ot(l:List Oper)(tr:List (Nat×Env×AV)):List (Nat×Op×Env×AV):=tr.map λp=>(p.1,O8 l p.1,p.2.1,p.2.2)
theorem DZ(l:List Oper): ∀(tr:List (Nat×Env×AV))(j:Nat),Bc (Ot l tr) j=(qk tr j).map λp=>(O8 l j,p.1,p.2)
 | [],j=>rfl
 |(k,e,v)::r,j=>by
  have ih:=DZ l r j
  unfold Ot at ih
  simp only[Ot,xb,Bc,qk]
  split
  ·rename_i h;subst h;rfl
  ·exact ih
theorem yo{P:Program}{l:List Oper}{tr:List (Nat×Env×AV)}{s:St}: ∀{wS:List Nat},wU P (Ot l tr) s wS->sN P l tr s wS
 | [],_=>trivial
 |j::r,⟨h1,h2⟩=>by
  refine⟨?_,yo h2⟩
  rw[DZ]at h1
  split
  ·rename_i e v o hf hl
   simp only[hf,gy,O8,hl]at h1
   exact h1
  ·trivial
theorem oV{P:Program}{l:List Oper}{K:Env->St->Prop}: ∀{bN:List Step}{tr:List (Nat×Env×AV)}{bI:Env}{s:St},dq P K (JK l bN) (Ot l tr) bI s->HR P l K bN tr bI s
 | [],_,_,_,h=>h
 |st::r,tr,bI,s,h=>by
  simp only[JK]at h
  cases ho:l[st.idx]? with
  |none=>
   simp only[ho,RJ]at h
   cases st<;>exact h.elim
  |some o=>
   simp only[ho,gy]at h
   cases st with
   |iD i note=>
    simp only[Step.idx]at ho
    simp only[dq]at h
    simp only[HR,ho]
    have key: ∀{bI:Env},(match iX P (l6 l o).op (iR (iF o) bI) s with
      |some (v,_)=>dq P K (JK l r) (if note then(i,(l6 l o).op,iR (iF o) bI,v)::Ot l tr else Ot l tr) (fF (l6 l o).dst v bI) s
      |none=>False)->(match iX P o.op (iR (iF o) bI) s with
      |some (v,_)=>HR P l K r (if note then(i,iR (iF o) bI,v)::tr else tr) (fF o.dst v bI) s
      |none=>False):=λh=>by
     have e:(l6 l o).op=o.op:=rfl
     rw[e]at h
     split at h
     ·rename_i v s1 hv
      try simp only[hv]
      refine oV ?_
      cases note
      ·exact h
      ·simp only[u0]at h |-
       have: ∀e,Ot l ((i,e,v)::tr)=(i,o.op,e,v)::Ot l tr:=λe=>by simp[Ot,O8,ho]
       rw[this];exact h
     ·cases h
    unfold FH at h |-
    split at h
    ·exact key h
    ·split at h
     ·exact⟨λe=>key (h.1 e),λe=>oV (h.2 e)⟩
     ·exact oV h
     ·cases h
   |ir i wS=>
    simp only[Step.idx]at ho
    simp only[dq]at h
    simp only[HR,ho]
    unfold FH at h |-
    split at h
    ·exact yn h λ_ _ h=>⟨yo h.1,oV h.2⟩
    ·split at h
     ·exact⟨λe=>yn (h.1 e) λ_ _ h=>⟨yo h.1,oV h.2⟩,λe=>oV (h.2 e)⟩
     ·exact oV h
     ·cases h
   |alloc i=>
    simp only[Step.idx]at ho
    simp only[dq]at h
    simp only[HR,ho]
    split at h
    ·rename_i v s' hv
     have Vw:iX P o.op [] s=some (v,s'):=hv
     rw[Vw]
     exact oV h
    ·cases h
def HS(op:Op):List Nat:=op.operands.toList.flatMap QE
def Sg(I:List Ins):List Step->List DI
 | []=>[]
 |st::r=>⟨st,I[st.idx]?,(match I[st.idx]? with|some n=>HS n.op|none=>[])⟩::Sg I r
theorem LS(l:List Oper): ∀bN,Sg (ins l) bN=JK l bN
 | []=>rfl
 |st::r=>by
  have e:(ins l)[st.idx]? =(l[st.idx]?).map (l6 l):=by unfold ins;rw[tx]
  simp only[Sg,JK,LS l r,e]
  cases l[st.idx]?<;>rfl
section
variable {P:Program} {K:Env->St->Prop} {d:Option Nat} {op:Op} {r:List Ins} {bI:Env} {s:St} {t:Nat} {w:Bool}
end
section
variable {P:Program} {K:Env->St->Prop} {d:Option Nat} {op:Op} {r:List DI} {bI:Env} {s:St} {t:Nat} {w:Bool} {i:Nat} {note:Bool} {sl wS:List Nat} {tr:List (Nat×Op×Env×AV)} {st:Step}
end
section
variable {P:Program} {N:Nat} {ρ:Option Nat} {Q:Exit->Env->St->Prop} {bI:Env} {s:St} {c:Code}
end
theorem F5.self{s:St}(h: ∀id,bH s.heap id≠some .gr):F5 s s:=⟨λid b hg=>⟨hg,λe=>by subst e;exact h id hg⟩,eF _⟩
def tU:gD->Bool
 |.gr=>true
 |.cells _ _=>false
 |.loop _=>false
def nb:List (Nat×gD)->Bool
 | []=>true
 |(_,b)::r=>!tU b&&nb r
theorem nV: ∀{l:List (Nat×gD)},nb l=true-> ∀id,bH l id≠some .gr
 | [],_,id,h=>by simp[cV,cM]at h
 |(k,b)::r,hn,id,h=>by
  simp only[cV,cM]at h
  split at h
  ·cases h;simp[nb,tU]at hn
  ·simp only[nb,fi]at hn
   exact nV hn.2 id h
theorem w64{n:Int}(h1: -9223372036854775808<=n)(h2:n<=9223372036854775807):IntKind.i64.wrap n=n:=by rw[IntKind.wrap_i64];omega
theorem nW{β:Type}: ∀{l:List (Nat×β)}{i:Nat}{x:β},bH l i=some x->(i,x)∈l
 | [],i,x,h=>by simp[cV,cM]at h
 |(k,y)::r,i,x,h=>by
  simp only[cV,cM]at h
  split at h
  ·rename_i e;subst e;cases h;simp
  ·exact Jh _ (nW h)
section
@[simp] theorem Uw(l:List AV):(AV.agg l).cells=l:=rfl
@[simp] theorem Ux(k:IntKind)(n:Int):(AV.int k n).cells=[.int k n]:=rfl
@[simp] theorem Sh(b:Bool):(AV.bool b).cells=[.bool b]:=rfl
@[simp] theorem Uy(b:ByteArray):(AV.str b).cells=[.str b]:=rfl
@[simp] theorem VU(b:Bool)(l:List AV):(AV.sl b l).cells=[.sl b l]:=rfl
@[simp] theorem VV(i a b:Nat):(AV.ms i a b).cells=[.ms i a b]:=rfl
@[simp] theorem VW(i a b:Nat):(AV.mp i a b).cells=[.mp i a b]:=rfl
@[simp] theorem Si:AV.iE.cells=[.iE]:=rfl
@[simp] theorem Sj:AV.mV.cells=[.mV]:=rfl
@[simp] theorem VX(f:FuncId)(l:List AV):(AV.fn f l).cells=[.fn f l]:=rfl
@[simp] theorem Sk(l:List AV):(AV.agg l).cX=false:=rfl
@[simp] theorem Sl(k:IntKind)(n:Int):(AV.int k n).cX=true:=rfl
@[simp] theorem QO(b:Bool):(AV.bool b).cX=true:=rfl
@[simp] theorem Sm(b:ByteArray):(AV.str b).cX=true:=rfl
@[simp] theorem Uz(b:Bool)(l:List AV):(AV.sl b l).cX=true:=rfl
@[simp] theorem UA(i a b:Nat):(AV.ms i a b).cX=true:=rfl
@[simp] theorem UB(i a b:Nat):(AV.mp i a b).cX=true:=rfl
@[simp] theorem QP:AV.iE.cX=true:=rfl
@[simp] theorem QQ:AV.mV.cX=true:=rfl
@[simp] theorem UC(f:FuncId)(l:List AV):(AV.fn f l).cX=true:=rfl
end
theorem Gc(t:Nat)(r:List Nat)(bI:Env):iR (t::r) bI=(match bH bI t with
  |some x=>(t,x)::iR r bI
  |none=>iR r bI):=by
 simp only[iR,List.filterMap_cons]
 cases bH bI t<;>rfl
end Go.Am
end
section
namespace Go.Am
open Go.RowKit
mutual
inductive Co (ok:Nat->Bool) (π:Nat->Nat):AV->AV->Prop
 |c {x:AV} (h:x.dy=true):Co ok π x x
 |s {b:Bool} {l:List AV} (h:eQ l=true):Co ok π (.sl false l) (.sl b l)
 |l {b:Bool} {xs ys:List AV} (h:sw ok π xs ys):Co ok π (.sl false xs) (.sl b ys)
 |n {id a:Nat}:Co ok π (.ms id a 0) (.sl true [])
 |mp {id fG el off:Nat} (h:ok id=true) (h':π id=fG):Co ok π (.mp id el off) (.mp fG el off)
 |y {id fG:Nat} (h:ok id=true) (h':π id=fG):Co ok π (.kK id) (.kK fG)
 |ms {id fG a b:Nat} (h:ok id=true) (h':π id=fG):Co ok π (.ms id a b) (.ms fG a b)
 |mc {id fG a b c:Nat} (h:ok id=true) (h':π id=fG):Co ok π (.mc id a b c) (.mc fG a b c)
 |mf {id fG a b b' c:Nat} (h:ok id=true) (h':π id=fG) (hb:b=b'):Co ok π (.ms id a b) (.mc fG a b' c)
 |e {id fG a b b':Nat} (h:ok id=true) (h':π id=fG) (hb:b=b'):Co ok π (.ms id a b) (.ms fG a b')
 |a {xs ys:List AV} (h:sw ok π xs ys):Co ok π (.agg xs) (.agg ys)
 |t {xs ys:List AV} (h:sw ok π xs ys):Co ok π (.ec xs) (.ec ys)
 |f {g:FuncId} {xs ys:List AV} (h:sw ok π xs ys):Co ok π (.fn g xs) (.fn g ys)
inductive sw (ok:Nat->Bool) (π:Nat->Nat):List AV->List AV->Prop
 |z:sw ok π [] []
 |k {x y:AV} {xs ys:List AV} (h:Co ok π x y) (hs:sw ok π xs ys):sw ok π (x::xs) (y::ys)
 |r {xs:List AV} (h:eQ xs=true):sw ok π xs xs
 |p {xs ys xs' ys':List AV} (h:sw ok π xs ys) (h':sw ok π xs' ys'):sw ok π (xs++xs') (ys++ys')
end
inductive Bd (ok:Nat->Bool) (π:Nat->Nat):gD->gD->Prop
 |cells {cB:Nat} {xs ys:List AV} (h:sw ok π xs ys):Bd ok π (.cells cB xs) (.cells cB ys)
 |cut {cB:Nat} {xs ys zs:List AV} (h:sw ok π xs ys):Bd ok π (.cells cB xs) (.cells cB (ys++zs))
 |gr:Bd ok π .gr .gr
 |loop {ks:List Nat} {xs ys:List AV} {N:Nat} {ps:List Tmp} {a b:Code} {st:LoopState} {pd:Option Code} (h:sw ok π xs ys):Bd ok π (.loop ⟨Aj ks xs,N,ps,a,b,st,pd⟩) (.loop ⟨Aj ks ys,N,ps,a,b,st,pd⟩)
theorem mJ{l:List AV}(h:eQ l=true){i:Nat}{x:AV}(hx:l[i]? =some x):x.dy=true:=ep.1 h x (gz hx)
section
variable {ok:Nat->Bool} {π:Nat->Nat} {G G':cg}
theorem sw.length: ∀{xs ys:List AV},sw ok π xs ys->xs.length=ys.length
 |_,_,.z=>rfl
 |_,_,.k _ hs=>by simp[hs.length]
 |_,_,.r _=>rfl
 |_,_,.p h h'=>by simp[h.length,h'.length]
theorem sw.get: ∀{xs ys:List AV},sw ok π xs ys-> ∀{i:Nat}{x:AV},xs[i]? =some x-> ∃y,ys[i]? =some y/\Co ok π x y
 |_,_,.z,i,x,h=>by simp at h
 |_,_,.k h0 hs,i,x,h=>by
  cases i with
  |zero=>simp at h;subst h;exact⟨_,rfl,h0⟩
  |succ i=>exact hs.get (by simpa using h)
 |_,_,.r hc,i,x,h=>⟨x,h,.c (mJ hc h)⟩
 |_,_,.p (xs:=xs) (ys:=ys) (xs':=xs') (ys':=ys') h1 h2,i,x,h=>by
  have hl:=h1.length
  by_cases hi:i<xs.length
  ·rw[np hi]at h
   obtain⟨y,hy,hc⟩:=h1.get h
   exact⟨y,by rw[np (by omega)];exact hy,hc⟩
  ·rw[pG (by omega)]at h
   obtain⟨y,hy,hc⟩:=h2.get h
   exact⟨y,by rw[pG (by omega),<-hl];exact hy,hc⟩
structure Seen (ok:Nat->Bool) (π:Nat->Nat) (G G':cg):Prop where
 gP: ∀b o v,G.gP b o=some v->G'.gP b o=some v
 own: ∀id r,ok id=true->G.own (π id)=some r->G'.own id=some r
theorem Co.cells{x y:AV}(h:Co ok π x y):sw ok π x.cells y.cells:=by
 have one: ∀{x y:AV},x.cells=[x]->y.cells=[y]->Co ok π x y->sw ok π x.cells y.cells:=λh1 h2 h=>by rw[h1,h2];exact .k h .z
 cases h with
 |c hc=>exact .r (ep.2 (lF hc))
 |s hc=>exact one rfl rfl (.s hc)
 |l hc=>exact one rfl rfl (.l hc)
 |n=>exact one rfl rfl .n
 |mp h h'=>exact one rfl rfl (.mp h h')
 |y h h'=>exact one rfl rfl (.y h h')
 |ms h h'=>exact one rfl rfl (.ms h h')
 |mc h h'=>exact one rfl rfl (.mc h h')
 |mf h h' hb=>exact one rfl rfl (.mf h h' hb)
 |e h h' hb=>exact one rfl rfl (.e h h' hb)
 |a h=>exact h
 |t h=>exact one rfl rfl (.t h)
 |f h=>exact one rfl rfl (.f h)
theorem Co.cX{x y:AV}(h:Co ok π x y):x.cX=y.cX:=by cases h<;>rfl
theorem sw.dn: ∀{xs ys:List AV},sw ok π xs ys->sw ok π (dn xs) (dn ys)
 |_,_,.z=>.z
 |_,_,.k h hs=>by rw[ji,ji];exact .p h.cells hs.dn
 |_,_,.r hc=>.r (ep.2 λy hy=>by
  rw[Go.Am.dn,sF]at hy
  obtain⟨e,he,hx⟩:=hy
  exact lF (ep.1 hc e he) y hx)
 |_,_,.p h h'=>by rw[dE,dE];exact .p h.dn h'.dn
theorem sw.mem{xs ys:List AV}(h:sw ok π xs ys){x:AV}(hx:x∈xs): ∃y∈ys,Co ok π x y:=by
 obtain⟨i,hi,rfl⟩:=pH hx
 obtain⟨y,hy,hc⟩:=h.get (dH hi)
 exact⟨y,gz hy,hc⟩
theorem Co.V(hG:Seen ok π G G'){x y:AV}{v:Value}(hv:V G y v):Co ok π x y->V G' x v:=by
 induction hv generalizing x with
 |any v=>intro h;cases h;exact .any _
 |bool b=>intro h;cases h<;>exact .bool b
 |int k n=>intro h;cases h<;>exact .int k n
 |str s=>intro h;cases h<;>exact .str s
 |iE=>intro h;cases h<;>exact .iE
 |mV=>intro h;cases h<;>exact .mV
 |slnil full bR cap hf hb=>
  intro h
  cases h with
  |c=>exact .slnil full bR cap hf hb
  |s=>exact .slnil false bR cap (λe=>by cases e) hb
  |l hl=>
   rename_i xs
   have:xs=[]:=Kx (by simpa using hl.length)
   subst this
   exact .slnil false bR cap (λe=>by cases e) hb
  |n=>exact .gC _ _ _ _ (hf rfl)
 |sl full elems b off cB cap val jY jS ee jz gS hV ih=>
  intro h
  cases h with
  |c hc=>exact .sl full elems b off cB cap val jY jS ee jz (λk hk=>hG.gP _ _ _ (gS k hk)) λk x hx=>(hV k x hx).dy hG.gP (by
    have hc:eQ elems=true:=by simpa[AV.dy]using hc
    have hm:x∈dn elems:=gz hx
    rw[dn,sF]at hm
    obtain⟨e,he,hx⟩:=hm
    exact lF (ep.1 hc e he) x hx)
  |s hc=>exact .sl false elems b off cB cap val jY (λe=>by cases e) ee jz (λk hk=>hG.gP _ _ _ (gS k hk)) λk x hx=>(hV k x hx).dy hG.gP (by
    have hm:x∈dn elems:=gz hx
    rw[dn,sF]at hm
    obtain⟨e,he,hx⟩:=hm
    exact lF (ep.1 hc e he) x hx)
  |l hl=>
   rw[<-hl.length]
   exact .sl false _ b off cB cap val (by rw[hl.length];exact jY) (λe=>by cases e) (λx hx=>by
     obtain⟨y,hy,hc⟩:=hl.mem hx
     rw[hc.cells.length];exact ee y hy) (λx hx=>by
     obtain⟨y,hy,hc⟩:=hl.dn.mem hx
     rw[hc.cX];exact jz y hy) (λk hk=>hG.gP _ _ _ (gS k (by rw[<-hl.length];exact hk))) λk x hx=>by
     obtain⟨y,hy,hc⟩:=hl.dn.get hx
     exact ih k y hy hc
  |n=>exact .gC _ _ _ _ (by have:=jS rfl;simpa using this)
 |ip cells b off val gS hV ih=>
  intro h
  cases h with
  |c hc=>exact .ip cells b off val (λk hk=>hG.gP _ _ _ (gS k hk)) λk x hx=>(hV k x hx).dy hG.gP (mJ (by simpa[AV.dy]using hc) hx)
 |mp id el off r h0=>
  intro h
  cases h with
  |c hc=>cases hc
  |mp ho hp=>subst hp;exact .mp _ _ _ r (hG.own _ _ ho h0)
 |ms id bL len cap r addr h0 eE eZ ha=>
  intro h
  cases h with
  |c hc=>cases hc
  |ms ho hp=>subst hp;exact .ms _ _ _ _ r addr (hG.own _ _ ho h0) eE eZ ha
  |e ho hp hb=>subst hp;subst hb;exact .ms _ _ _ _ r addr (hG.own _ _ ho h0) eE eZ ha
 |gC id bL cap bR h0=>
  intro h
  cases h with
  |c hc=>cases hc
  |ms ho hp=>exact .gC _ _ _ _ h0
  |e ho hp hb=>subst hb;exact .gC _ _ _ _ h0
 |mc id bL len cap r addr h0 eE eZ ha=>
  intro h
  cases h with
  |c hc=>cases hc
  |mc ho hp=>subst hp;exact .mc _ _ _ _ r addr (hG.own _ _ ho h0) eE eZ ha
  |mf ho hp hb=>subst hp;subst hb;exact .ms _ _ _ _ r addr (hG.own _ _ ho h0) eE eZ ha
 |mZ id bL bR=>
  intro h
  cases h with
  |c hc=>cases hc
  |mc ho hp=>exact .mZ _ _ _
  |mf ho hp hb=>subst hb;exact .gC _ _ _ _ rfl
 |fn f fQ vs dA h0 ih=>
  intro h
  cases h with
  |c hc=>exact .fn f fQ vs dA λi x y hx hy=>(h0 i x y hx hy).dy hG.gP (mJ (by simpa[AV.dy]using hc) hx)
  |f hl=>exact .fn f _ vs (by rw[hl.length];exact dA) λi x y hx hy=>let⟨z,hz,hc⟩:=hl.get hx;ih i z y hz hy hc
 |kK id r h0=>
  intro h
  cases h with
  |c hc=>cases hc
  |y ho hp=>subst hp;exact .kK _ r (hG.own _ _ ho h0)
 |agg cs vs dA h0 ih=>
  intro h
  cases h with
  |c hc=>exact .agg cs vs dA λi x y hx hy=>(h0 i x y hx hy).dy hG.gP (mJ (by simpa[AV.dy]using hc) hx)
  |a hl=>exact .agg _ vs (by rw[hl.length];exact dA) λi x y hx hy=>let⟨z,hz,hc⟩:=hl.get hx;ih i z y hz hy hc
 |ec cs vs dA h0 ih=>
  intro h
  cases h with
  |c hc=>exact .ec cs vs dA λi x y hx hy=>(h0 i x y hx hy).dy hG.gP (mJ (by simpa[AV.dy]using hc) hx)
  |t hl=>exact .ec _ vs (by rw[hl.length];exact dA) λi x y hx hy=>let⟨z,hz,hc⟩:=hl.get hx;ih i z y hz hy hc
theorem Bd.holds(hG:Seen ok π G G'){b b':gD}{r:uW}{o:Obj}(h:Bd ok π b b')(hh:Holds G r b' o):Holds G' r b o:=by
 cases h with
 |gr=>cases hh;exact .gr
 |loop hl=>
  cases hh with
  |loop _ fn tmps d eC hV=>
   refine .loop _ fn tmps d eC λt x hx=>?_
   have key: ∀{ks:List Nat}{xs ys:List AV},xs.length=ys.length->(∀(i:Nat)(x:AV),xs[i]? =some x-> ∃y:AV,ys[i]? =some y/\Co ok π x y)-> ∀t x,bH (Aj ks xs) t=some x-> ∃y,bH (Aj ks ys) t=some y/\Co ok π x y:=by
    intro ks
    induction ks with
    |nil=>intro xs ys _ _ t x hx;simp[Aj,cV,cM]at hx
    |cons k r ih=>
     intro xs ys dA hc t x hx
     cases xs with
     |nil=>simp[Aj,cV,cM]at hx
     |cons x0 xs=>
      cases ys with
      |nil=>simp at dA
      |cons y0 ys=>
       simp only[Aj,cV,cM]at hx |-
       split at hx
       ·rename_i e;cases hx;subst e
        obtain⟨y,hy,ZR⟩:=hc 0 _ rfl
        simp at hy;subst hy
        exact⟨y0,by simp,ZR⟩
       ·rename_i e
        rw[dM e]
        exact ih (by simpa using dA) (λi x hx=>by simpa using hc (i+1) x (by simpa using hx)) t x hx
   obtain⟨y,hy,ZR⟩:=key hl.length (λi x hx=>hl.get hx) t x hx
   obtain⟨h1,h2⟩:=hV t y hy
   exact⟨h1,ZR.V hG h2⟩
 |cells hl=>
  cases hh with
  |cells _ _ cs e eC ee h0 iM jz eZ hV=>
   refine .cells _ _ cs e eC ee h0 (λx hx=>?_) (λx hx=>?_) (by rw[hl.length];exact eZ) λk x hx=>?_
   ·obtain⟨y,hy,hc⟩:=hl.mem hx
    rw[hc.cells.length];exact iM y hy
   ·obtain⟨y,hy,hc⟩:=hl.dn.mem hx
    rw[hc.cX];exact jz y hy
   ·obtain⟨y,hy,hc⟩:=hl.dn.get hx
    obtain⟨v,hv,VY⟩:=hV k y hy
    exact⟨v,hv,hc.V hG VY⟩
 |cut hl=>
  cases hh with
  |cells _ _ cs e eC ee h0 iM jz eZ hV=>
   refine .cells _ _ cs e eC ee h0 (λx hx=>?_) (λx hx=>?_) (vU (RK (Aa _ (by rw[hl.length,jW];exact Nat.le_add_right _ _)) _) eZ) λk x hx=>?_
   ·obtain⟨y,hy,hc⟩:=hl.mem hx
    rw[hc.cells.length];exact iM y (Dn _ hy)
   ·obtain⟨y,hy,hc⟩:=hl.dn.mem hx
    rw[hc.cX];exact jz y (by rw[dE];exact Dn _ hy)
   ·obtain⟨y,hy,hc⟩:=hl.dn.get hx
    obtain⟨v,hv,VY⟩:=hV k y (by rw[dE,np (fP.1 hy).1];exact hy)
    exact⟨v,hv,hc.V hG VY⟩
theorem Bd.nil{b:gD}{cB:Nat}(h:Bd ok π b (.cells cB [])):b=.cells cB []:=by
 generalize hb:gD.cells cB []=b' at h
 cases h with
 |gr=>cases hb
 |loop hl=>cases hb
 |cells hl=>
  cases hb
  rename_i xs
  have:xs=[]:=Kx (by simpa using hl.length)
  rw[this]
 |cut hl=>
  injection hb with h1 h2
  subst h1
  rename_i xs ys zs
  have h3:ys=[]:=(List.append_eq_nil_iff.1 h2.symm).1
  have:xs=[]:=Kx (by rw[hl.length,h3];rfl)
  rw[this,<-h2]
theorem sw.V(hG:Seen ok π G G'){xs ys:List AV}{vs:Array Value}(h:sw ok π xs ys)(hv:VL G ys vs):VL G' xs vs:=
 ⟨by rw[h.length];exact hv.1,λi x v hx hi=>let⟨y,hy,hc⟩:=h.get hx;hc.V hG (hv.2 i y v hy hi)⟩
end
def has(h:List (Nat×gD))(id:Nat):Bool:=(bH h id).isSome
theorem iA{h:List (Nat×gD)}{id:Nat}:has h id=true↔ ∃b,bH h id=some b:=by
 unfold has;exact AM
def gw(bR:Nat)(h:List (Nat×gD))(id:Nat):Bool:=Nat.blt id bR||has h id
structure IntoM (bR:Nat) (π:Nat->Nat) (S2 s:St):Prop where
 heap: ∀id b,bH S2.heap id=some b->(∃b',bH s.heap (π id)=some b'/\Bd (gw bR S2.heap) π b b')\/(bR<=id/\s.bT<=π id/\ ∃cB,0<cB/\b=.cells cB [])
 low: ∀id,id<bR->π id=id
 inj: ∀id fG b b',bH S2.heap id=some b->bH S2.heap fG=some b'->π id=π fG->id=fG\/s.bT<=π id
 lt: ∀id b,bH S2.heap id=some b->id<S2.bT
 cb:bR<=S2.bT
structure qq (bR:Nat) (π:Nat->Nat) (S2 s:St):Prop extends IntoM bR π S2 s where
 gr: ∀id,bH s.heap id=some .gr->id<bR/\bH S2.heap id=some .gr
def fM(bR:Nat)(π:Nat->Nat)(h:List (Nat×gD))(G:cg):cg:={gP:=G.gP,own:=λid=>if gw bR h id=true then G.own (π id)else none}
section
variable {bR:Nat} {π:Nat->Nat} {S2 s s0:St} {G G0:cg} {w w0:World}
theorem Be:Seen (gw bR S2.heap) π G (fM bR π S2.heap G):=
 ⟨λ_ _ _ h=>h,λid r ho hr=>by simp only[fM,ho,u0];exact hr⟩
theorem nX{h:List (Nat×gD)}{id:Nat}(hl:id<bR):gw bR h id=true:=by simp[gw,hl]
theorem qs{h:List (Nat×gD)}{id:Nat}{b:gD}(hg:bH h id=some b):gw bR h id=true:=by
 simp[gw,iA.2 ⟨b,hg⟩]
theorem wV{h:List (Nat×gD)}{id:Nat}{b:gD}(hg:bH h id=some b):(fM bR π h G).own id=G.own (π id):=by
 simp only[fM,qs hg,u0]
theorem IntoM.iQ(h:IntoM bR π S2 s)(hs:eL G s w):eL (fM bR π S2.heap G) S2 w:=by
 refine⟨hs.gP,λid b hg=>?_,λid fG b b' r r' h1 h2 o1 o2 eV=>?_,λid b r o hg ho=>?_,λid jT=>?_,h.lt⟩
 ·rw[wV hg]
  rcases h.heap id b hg with⟨b',nq,hc⟩|⟨_,hn,cB,h0,he⟩
  ·rcases hs.heap _ _ nq with⟨r,o,e1,e2,e3⟩|⟨e1,cB,h0,e2⟩
   ·exact .inl ⟨r,o,e1,e2,hc.holds Be e3⟩
   ·refine .inr ⟨e1,cB,h0,?_⟩
    subst e2
    exact hc.nil
  ·exact .inr ⟨hs.ct _ hn,cB,h0,he⟩
 ·rw[wV h1]at o1
  rw[wV h2]at o2
  rcases h.heap id b h1 with⟨c,hc,_⟩|⟨_,hn,_⟩
  ·rcases h.heap fG b' h2 with⟨c',RG,_⟩|⟨_,hn,_⟩
   ·refine hs.apart _ _ c c' r r' hc RG o1 o2 λe=>?_
    rcases h.inj id fG b b' h1 h2 e with e|e
    ·exact eV e
    ·have:=hs.lt _ _ hc;omega
   ·rw[hs.ct _ hn]at o2;cases o2
  ·rw[hs.ct _ hn]at o1;cases o1
 ·rw[wV hg]at ho
  rcases h.heap id b hg with⟨c,hc,_⟩|⟨_,hn,_⟩
  ·exact hs.clear _ c r o hc ho
  ·rw[hs.ct _ hn]at ho;cases ho
 ·have hb:=h.cb
  have:gw bR S2.heap id=false:=by
   cases hq:gw bR S2.heap id with
   |false=>rfl
   |true=>
    simp only[gw,tz,rO]at hq
    rcases hq with hq|hq
    ·omega
    ·obtain⟨b,hb⟩:=iA.1 hq
     have:=h.lt id b hb
     omega
  simp[fM,this]
theorem qq.ext(h:qq bR π S2 s)(h0:eL G0 s0 w0)(hx:Ext G0 s0 w0 G s w)(hs:eL G s w)(hb:s0.bT<=bR):Ext G0 s0 w0 (fM bR π S2.heap G) S2 w:=by
 have lo: ∀id,id<bR->(fM bR π S2.heap G).own id=G.own id:=λid hl=>by simp only[fM,nX hl,u0,h.low id hl]
 refine⟨⟨hx.le.gP,λid r ho=>?_⟩,hx.os,hx.tape,hx.output,hx.size,hx.keep,hx.jA,λid r ho=>?_,λid b hg=>?_,vU hb h.cb,λid hd=>?_,λid hl ho=>?_,hx.drawn⟩
 ·have:id<s0.bT:=by
   by_cases hq:id<s0.bT
   ·exact hq
   ·rw[h0.ct id (by omega)]at ho;cases ho
  rw[lo id (by omega)];exact hx.le.own _ _ ho
 ·by_cases hl:id<bR
  ·rw[lo id hl]at ho;exact hx.iW id r ho
  ·have Dj:gw bR S2.heap id=true:=by
    cases hq:gw bR S2.heap id with
    |true=>rfl
    |false=>simp[fM,hq]at ho
   have hh:has S2.heap id=true:=by
    simp only[gw,tz,rO]at Dj
    rcases Dj with hq|hq
    ·exact absurd hq hl
    ·exact hq
   obtain⟨b,hg⟩:=iA.1 hh
   rw[wV hg]at ho
   rcases h.heap id b hg with⟨c,hc,_⟩|⟨_,hn,_⟩
   ·rcases hx.iW _ r ho with q|q
    ·rcases hx.ids _ c hc with⟨c0,q0⟩|q0
     ·exact .inr (.inr ⟨_,c0,r,q0,q,rfl⟩)
     ·rw[h0.ct _ q0]at q;cases q
    ·exact .inr q
   ·rw[hs.ct _ hn]at ho;cases ho
 ·by_cases hl:id<bR
  ·rcases h.heap id b hg with⟨c,hc,_⟩|⟨hn,_⟩
   ·rw[h.low id hl]at hc;exact hx.ids id c hc
   ·omega
  ·exact .inr (by omega)
 ·exact(h.gr id (hx.gr id hd)).2
 ·rw[lo id (by omega)];exact hx.stay id hl ho
theorem qq.mg(h:qq bR π S2 s): ∀{ds:List Deferred},oM G s ds->oM (fM bR π S2.heap G) S2 ds
 | [],_=>trivial
 |_::_,⟨⟨id,r,a,b,c,d⟩,hr⟩=>⟨⟨id,r,(h.gr id a).2,by simp only[fM];rw[dD (nX (h.gr id a).1),h.low id (h.gr id a).1];exact b,c,d⟩,h.mg hr⟩
end
structure JL (bR:Nat) (π:Nat->Nat) (E2:Env) (S2:St) (bI:Env) (s:St):Prop where
 st:qq bR π S2 s
 bI: ∀t x,bH E2 t=some x-> ∃y,bH bI t=some y/\Co (gw bR S2.heap) π x y
section
variable {P:Program} {N:Nat} {ρ:Option Nat} {Q Q':Exit->Env->St->Prop} {bI E2:Env} {s S2:St} {bR:Nat} {π:Nat->Nat}
theorem JL.now(h:JL bR π E2 S2 bI s){G:cg}{a:Act}{w:World}(Gd: ∀id,ρ=some id->id<bR)(hn:xe G N ρ bI s a w):xe (fM bR π S2.heap G) N ρ E2 S2 a w:=by
 refine⟨h.st.iQ hn.iQ,λt x hx=>?_,hn.size,h.st.mg hn.mg,λid e=>?_⟩
 ·obtain⟨y,hy,hc⟩:=h.bI t x hx
  exact⟨(hn.bI t y hy).1,hc.V Be (hn.bI t y hy).2⟩
 ·obtain⟨r,hr⟩:=hn.known id e
  exact⟨r,by simp only[fM];rw[dD (nX (Gd id e)),h.st.low id (Gd id e)];exact hr⟩
def bZ{σ τ:Type}(body:σ->Option (σ⊕τ)):Nat->σ->Option τ
 |0,_=>none
 |n+1,st=>match body st with
  |some (.inl zZ)=>bZ body n zZ
  |some (.inr r)=>some r
  |none=>none
end
end Go.Am
end
section
namespace Go.Am
open Go.RowKit
def okF(fr:Nat->Bool)(h:List (Nat×gD))(id:Nat):Bool:=has h id&&!fr id
structure Fits (π σ:Nat->Nat) (fr:Nat->Bool) (H0 H1 s s':St):Prop where
 O9: ∀id b,bH H0.heap id=some b-> ∃b',bH s.heap (π id)=some b'/\Bd (gw 0 H0.heap) π b b'
 inj: ∀id fG b b',bH H0.heap id=some b->bH H0.heap fG=some b'->π id=π fG->id=fG
 lt: ∀id b,bH H0.heap id=some b->id<H0.bT
 out: ∀id b,bH s'.heap id=some b->fr id=false-> ∃b',bH H1.heap (σ id)=some b'/\Bd (okF fr s'.heap) σ b b'/\(id<s.bT->has H0.heap (σ id)=true/\π (σ id)=id)
 keep: ∀id b,bH s'.heap id=some b->fr id=true->bH s.heap id=some b/\ ∀i b',bH H0.heap i=some b'->π i≠id
 ZS: ∀id fG b b',bH s'.heap id=some b->bH s'.heap fG=some b'->fr id=false->fr fG=false->σ id=σ fG->id=fG
 lt': ∀id b,bH s'.heap id=some b->id<s'.bT
 bT:s.bT<=s'.bT
 gr: ∀id,bH s.heap id=some .gr->bH s'.heap id=some .gr
def kW(bT:Nat)(σ:Nat->Nat)(h:List (Nat×gD))(G G':cg):cg:={gP:=G'.gP,own:=λid=>if id<bT then G.own id else if has h id=true then G'.own (σ id)else none}
theorem Fits.QR{π σ:Nat->Nat}{fr:Nat->Bool}{H0 H1 s s':St}(hf:Fits π σ fr H0 H1 s s'):IntoM 0 π H0 s:=
 ⟨λid b hg=>.inl (hf.O9 id b hg),λid hl=>by omega,λid fG b b' h1 h2 e=>.inl (hf.inj id fG b b' h1 h2 e),λid b hg=>hf.lt id b hg,AK _⟩
theorem yp{H0 H1 s s':St}{v0 v:AV}{π σ:Nat->Nat}{fr:Nat->Bool}{G:cg}{w w':World}{e:Ending}(hf:Fits π σ fr H0 H1 s s')(hv:Co (okF fr s'.heap) σ v v0)(hs:eL G s w)
  (hg:wM (fM 0 π H0.heap G) H0 w (λy t=>y=v0/\t=H1) e w'):wM G s w (λy t=>y=v/\t=s') e w':=by
 have Sn: ∀{id b},bH H0.heap id=some b->(fM 0 π H0.heap G).own id=G.own (π id):=λhg=>wV hg
 have QS: ∀{id r},(fM 0 π H0.heap G).own id=some r-> ∃b,bH H0.heap id=some b:=λ{id r}ho=>by
  cases hq:gw 0 H0.heap id with
  |false=>simp[fM,hq]at ho
  |true=>
   simp only[gw,tz,rO,Nat.not_lt_zero,false_or]at hq
   exact iA.1 hq
 have xh: ∀b,lZ (fM 0 π H0.heap G) H0 b->lZ G s b:=λb ⟨id,blk,r,g1,g2,g3⟩=>by
  rw[Sn g1]at g2
  obtain⟨b',nq,_⟩:=hf.O9 id blk g1
  exact⟨π id,b',r,nq,g2,g3⟩
 obtain⟨val,G1,y,t,rfl,hV,hS,hE,rfl,rfl⟩:=hg
 have LU: ∀{id},id<s.bT->(kW s.bT σ s'.heap G G1).own id=G.own id:=λhl=>by simp[kW,hl]
 have QT: ∀{id b},¬id<s.bT->bH s'.heap id=some b->(kW s.bT σ s'.heap G G1).own id=G1.own (σ id):=λ{id b}hl hg=>by
  simp[kW,hl,iA.2 ⟨_,hg⟩]
 have JM: ∀{id b},bH s'.heap id=some b->fr id=false->(kW s.bT σ s'.heap G G1).own id=G1.own (σ id):=λ{id b}hg sx=>by
  by_cases hl:id<s.bT
  ·rw[LU hl]
   obtain⟨_,_,_,hq⟩:=hf.out id b hg sx
   obtain⟨h1,h2⟩:=hq hl
   obtain⟨c,hc⟩:=iA.1 h1
   have h3:=Sn hc
   rw[h2]at h3
   cases hr:G.own id with
   |none=>rw[hr]at h3;exact(hE.stay _ (hf.lt _ _ hc) h3).symm
   |some r=>rw[hr]at h3;exact(hE.le.own _ _ h3).symm
  ·exact QT hl hg
 have eE:sr G (kW s.bT σ s'.heap G G1):=⟨λb o v hi=>hE.le.gP b o v hi,λid r ho=>by
  have:id<s.bT:=by
   by_cases hq:id<s.bT
   ·exact hq
   ·rw[hs.ct id (by omega)]at ho;cases ho
  rw[LU this];exact ho⟩
 have seen:Seen (okF fr s'.heap) σ G1 (kW s.bT σ s'.heap G G1):=⟨λ_ _ _ h=>h,λid r ho hr=>by
  simp only[okF,fi,p9]at ho
  obtain⟨b,hb⟩:=iA.1 ho.1
  rw[JM hb ho.2];exact hr⟩
 have Ut: ∀{id b r},bH s.heap id=some b->(∀i b',bH H0.heap i=some b'->π i≠id)->G.own id=some r-> ¬lZ (fM 0 π H0.heap G) H0 r.block:=λ{id b r}hg eV ho ⟨i,b',r',g1,g2,g3⟩=>by
  rw[Sn g1]at g2
  obtain⟨c,hc,_⟩:=hf.O9 i b' g1
  exact hs.apart _ _ c b r' r hc hg g2 ho (eV i b' g1) g3
 have D0: ∀{id b},bH s'.heap id=some b->fr id=true->(kW s.bT σ s'.heap G G1).own id=G.own id:=λhg sx=>LU (hs.lt _ _ (hf.keep _ _ hg sx).1)
 have LW: ∀{id fG b b' r r'},bH s'.heap id=some b->bH s'.heap fG=some b'->fr id=false->fr fG=true->(kW s.bT σ s'.heap G G1).own id=some r->(kW s.bT σ s'.heap G G1).own fG=some r'->r.block≠r'.block:=
  λ{id fG b b' r r'}h1 h2 f1 f2 o1 o2 e=>by
   rw[JM h1 f1]at o1
   rw[D0 h2 f2]at o2
   obtain⟨k1,k2⟩:=hf.keep _ _ h2 f2
   have VZ:=Ut k1 k2 o2
   rcases hE.iW _ _ o1 with q|q|q
   ·obtain⟨c,hc⟩:=QS q
    exact VZ ⟨_,c,r,hc,q,e⟩
   ·have:=hs.jn k1 o2
    omega
   ·rw[e]at q;exact VZ q
 refine⟨val,kW s.bT σ s'.heap G G1,v,s',rfl,hv.V seen hV,⟨hS.gP,λid b hg=>?_,λid fG b b' r r' h1 h2 o1 o2 eV=>?_,λid b r o hg ho=>?_,λid jT=>?_,hf.lt'⟩,
  ⟨eE,hE.os,hE.tape,hE.output,hE.size,λb hb rQ=>hE.keep b hb λq=>rQ (xh b q),λb o u hi=>?_,λid r ho=>?_,λid b hg=>?_,hf.bT,hf.gr,λid hl ho=>by rw[LU hl];exact ho,hE.drawn⟩,rfl,rfl⟩
 ·cases sx:fr id with
  |false=>
   rw[JM hg sx]
   obtain⟨b',nq,hc,_⟩:=hf.out id b hg sx
   rcases hS.heap _ _ nq with⟨r,o,e1,e2,e3⟩|⟨e1,cB,h0,e2⟩
   ·exact .inl ⟨r,o,e1,e2,hc.holds seen e3⟩
   ·refine .inr ⟨e1,cB,h0,?_⟩
    subst e2
    exact hc.nil
  |true=>
   rw[D0 hg sx]
   obtain⟨k1,k2⟩:=hf.keep _ _ hg sx
   rcases hs.heap _ _ k1 with⟨r,o,e1,e2,e3⟩|q
   ·exact .inl ⟨r,o,e1,by rw[hE.keep _ (hs.jn k1 e1) (Ut k1 k2 e1)];exact e2,e3.mono eE⟩
   ·exact .inr q
 ·cases f1:fr id with
  |false=>
   cases f2:fr fG with
   |false=>
    rw[JM h1 f1]at o1
    rw[JM h2 f2]at o2
    obtain⟨c,hc,_⟩:=hf.out id b h1 f1
    obtain⟨c',RG,_⟩:=hf.out fG b' h2 f2
    exact hS.apart _ _ c c' r r' hc RG o1 o2 λe=>eV (hf.ZS id fG b b' h1 h2 f1 f2 e)
   |true=>exact LW h1 h2 f1 f2 o1 o2
  |true=>
   cases f2:fr fG with
   |false=>exactλe=>LW h2 h1 f2 f1 o2 o1 e.symm
   |true=>
    rw[D0 h1 f1]at o1
    rw[D0 h2 f2]at o2
    exact hs.apart id fG b b' r r' (hf.keep _ _ h1 f1).1 (hf.keep _ _ h2 f2).1 o1 o2 eV
 ·show G1.gP r.block o=none
  cases sx:fr id with
  |false=>
   rw[JM hg sx]at ho
   obtain⟨c,hc,_⟩:=hf.out id b hg sx
   exact hS.clear _ c r o hc ho
  |true=>
   rw[D0 hg sx]at ho
   obtain⟨k1,k2⟩:=hf.keep _ _ hg sx
   cases hi:G1.gP r.block o with
   |none=>rfl
   |some u=>
    rcases hE.jA _ _ _ hi with q|q|q
    ·have q':G.gP r.block o=some u:=q
     rw[hs.clear id b r o k1 ho]at q';cases q'
    ·have:=hs.jn k1 ho;omega
    ·exact absurd q (Ut k1 k2 ho)
 ·have hc:=hf.bT
  have hn:has s'.heap id=false:=by
   cases hq:has s'.heap id with
   |false=>rfl
   |true=>
    obtain⟨b,hb⟩:=iA.1 hq
    have:=hf.lt' id b hb
    omega
  have: ¬id<s.bT:=by omega
  simp[kW,this,hn]
 ·rcases hE.jA b o u hi with q|q|q
  ·exact .inl q
  ·exact .inr (.inl q)
  ·exact .inr (.inr (xh b q))
 ·by_cases hl:id<s.bT
  ·rw[LU hl]at ho;exact .inl ho
  ·have hh:has s'.heap id=true:=by
    cases hq:has s'.heap id with
    |true=>rfl
    |false=>simp[kW,hl,hq]at ho
   obtain⟨b,hb⟩:=iA.1 hh
   rw[QT hl hb]at ho
   rcases hE.iW _ _ ho with q|q|q
   ·obtain⟨c,hc⟩:=QS q
    exact .inr (.inr (xh _ ⟨_,c,r,hc,q,rfl⟩))
   ·exact .inr (.inl q)
   ·exact .inr (.inr (xh _ q))
 ·cases sx:fr id with
  |false=>
   by_cases hl:id<s.bT
   ·obtain⟨_,_,_,hq⟩:=hf.out id b hg sx
    obtain⟨h1,h2⟩:=hq hl
    obtain⟨c,hc⟩:=iA.1 h1
    obtain⟨b',nq,_⟩:=hf.O9 _ c hc
    rw[h2]at nq
    exact .inl ⟨b',nq⟩
   ·exact .inr (by omega)
  |true=>exact .inl ⟨b,(hf.keep _ _ hg sx).1⟩
theorem Cg{P:Program}{f:FuncId}{cq args:List AV}{H0 H1 s s':St}{v0 v:AV}{π σ:Nat->Nat}{fr:Nat->Bool}(h:dQ P f cq H0 λy t=>y=v0/\t=H1)(hf:Fits π σ fr H0 H1 s s')
  (ha:sw (gw 0 H0.heap) π cq args) (hv:Co (okF fr s'.heap) σ v v0):dQ P f args s λy t=>y=v/\t=s':=λG w vs hs Ds=>
 (h _ w vs (hf.QR.iQ hs) (ha.V Be Ds)).mono λ_ _ hg=>yp hf hv hs hg
theorem Ch{P:Program}{id:Nat}{cq args:List AV}{H0 H1 s s':St}{v0 v:AV}{π σ:Nat->Nat}{fr:Nat->Bool}(h:iY P id cq H0 λy t=>y=v0/\t=H1)(jT:has H0.heap id=true)(hf:Fits π σ fr H0 H1 s s')
  (ha:sw (gw 0 H0.heap) π cq args) (hv:Co (okF fr s'.heap) σ v v0):iY P (π id) args s λy t=>y=v/\t=s':=λo G w r vs hs ho Ds=>by
 obtain⟨b,hb⟩:=iA.1 jT
 obtain⟨fn,tmps,assign,body,h1,h2⟩:=h o _ w r vs (hf.QR.iQ hs) (by rw[wV hb];exact ho) (ha.V Be Ds)
 exact⟨fn,tmps,assign,body,h1,h2.mono λ_ _ hg=>yp hf hv hs hg⟩
mutual
inductive Fz (id:Nat) (elems:List AV):AV->AV->Prop
 |r (x:AV):Fz id elems x x
 |m {bL len:Nat} {l:List AV} (hl:bL+len<=elems.length) (he:(elems.drop bL).take len=l):Fz id elems (.sl false l) (.ms id bL len)
 |o {e:AV} {cs:List AV} (he:elems=[e]) (hc:e.cells=cs):Fz id elems (.ip cs) (.mp id 0 0)
 |a {xs ys:List AV} (h:z6 id elems xs ys):Fz id elems (.agg xs) (.agg ys)
 |t {xs ys:List AV} (h:z6 id elems xs ys):Fz id elems (.ec xs) (.ec ys)
 |f {g:FuncId} {xs ys:List AV} (h:z6 id elems xs ys):Fz id elems (.fn g xs) (.fn g ys)
inductive z6 (id:Nat) (elems:List AV):List AV->List AV->Prop
 |z:z6 id elems [] []
 |k {x y:AV} {xs ys:List AV} (h:Fz id elems x y) (hs:z6 id elems xs ys):z6 id elems (x::xs) (y::ys)
 |r (xs:List AV):z6 id elems xs xs
 |p {xs ys xs' ys':List AV} (h:z6 id elems xs ys) (h':z6 id elems xs' ys'):z6 id elems (xs++xs') (ys++ys')
end
section
variable {id:Nat} {elems:List AV} {G G':cg}
theorem z6.length: ∀{xs ys:List AV},z6 id elems xs ys->xs.length=ys.length
 |_,_,.z=>rfl
 |_,_,.k _ hs=>by simp[hs.length]
 |_,_,.r _=>rfl
 |_,_,.p h h'=>by simp[h.length,h'.length]
theorem z6.get: ∀{xs ys:List AV},z6 id elems xs ys-> ∀{i:Nat}{x:AV},xs[i]? =some x-> ∃y,ys[i]? =some y/\Fz id elems x y
 |_,_,.z,i,x,h=>by simp at h
 |_,_,.k h0 hs,i,x,h=>by
  cases i with
  |zero=>simp at h;subst h;exact⟨_,rfl,h0⟩
  |succ i=>exact hs.get (by simpa using h)
 |_,_,.r _,i,x,h=>⟨x,h,.r x⟩
 |_,_,.p (xs:=xs) (ys:=ys) (xs':=xs') (ys':=ys') h1 h2,i,x,h=>by
  have hl:=h1.length
  by_cases hi:i<xs.length
  ·rw[np hi]at h
   obtain⟨y,hy,hc⟩:=h1.get h
   exact⟨y,by rw[np (by omega)];exact hy,hc⟩
  ·rw[pG (by omega)]at h
   obtain⟨y,hy,hc⟩:=h2.get h
   exact⟨y,by rw[pG (by omega),<-hl];exact hy,hc⟩
theorem z6.mem{xs ys:List AV}(h:z6 id elems xs ys){x:AV}(hx:x∈xs): ∃y∈ys,Fz id elems x y:=by
 obtain⟨i,hi,rfl⟩:=pH hx
 obtain⟨y,hy,hc⟩:=h.get (dH hi)
 exact⟨y,gz hy,hc⟩
theorem Fz.cells{x y:AV}(h:Fz id elems x y):z6 id elems x.cells y.cells:=by
 cases h with
 |r=>exact .r _
 |m hl he=>exact .k (.m hl he) .z
 |o he hc=>exact .k (.o he hc) .z
 |a h=>exact h
 |t h=>exact .k (.t h) .z
 |f h=>exact .k (.f h) .z
theorem Fz.cX{x y:AV}(h:Fz id elems x y):x.cX=y.cX:=by cases h<;>rfl
theorem z6.dn: ∀{xs ys:List AV},z6 id elems xs ys->z6 id elems (dn xs) (dn ys)
 |_,_,.z=>.z
 |_,_,.k h hs=>by rw[ji,ji];exact .p h.cells hs.dn
 |_,_,.r _=>.r _
 |_,_,.p h h'=>by rw[dE,dE];exact .p h.dn h'.dn
theorem Fz.V(eE:sr G G')(hm:(∀bL len v,bL+len<=elems.length->V G (.ms id bL len) v->V G' (.sl false ((elems.drop bL).take len)) v)/\ ∀e v,elems=[e]->V G (.mp id 0 0) v->V G' (.ip e.cells) v){x y:AV}{v:Value}(hv:V G y v):Fz id elems x y->V G' x v:=by
 induction hv generalizing x with
 |fn f fQ vs dA h0 ih=>
  intro h
  cases h with
  |r=>exact(V.fn f fQ vs dA h0).mono eE
  |f hl=>exact .fn f _ vs (by rw[hl.length];exact dA) λi x y hx hy=>let⟨z,hz,hc⟩:=hl.get hx;ih i z y hz hy hc
 |agg cs vs dA h0 ih=>
  intro h
  cases h with
  |r=>exact(V.agg cs vs dA h0).mono eE
  |a hl=>exact .agg _ vs (by rw[hl.length];exact dA) λi x y hx hy=>let⟨z,hz,hc⟩:=hl.get hx;ih i z y hz hy hc
 |ec cs vs dA h0 ih=>
  intro h
  cases h with
  |r=>exact(V.ec cs vs dA h0).mono eE
  |t hl=>exact .ec _ vs (by rw[hl.length];exact dA) λi x y hx hy=>let⟨z,hz,hc⟩:=hl.get hx;ih i z y hz hy hc
 |any v=>intro h;cases h;exact .any v
 |bool b=>intro h;cases h;exact .bool b
 |int k n=>intro h;cases h;exact .int k n
 |str s=>intro h;cases h;exact .str s
 |iE=>intro h;cases h;exact .iE
 |mV=>intro h;cases h;exact .mV
 |slnil full bR cap hf hb=>intro h;cases h;exact .slnil full bR cap hf hb
 |sl full elems b off cB cap val jY jS ee jz gS hV ih=>intro h;cases h;exact(V.sl full elems b off cB cap val jY jS ee jz gS hV).mono eE
 |ip cells b off val gS hV ih=>intro h;cases h;exact(V.ip cells b off val gS hV).mono eE
 |mp id el off r h0=>
  intro h
  cases h with
  |r=>exact(V.mp id el off r h0).mono eE
  |o he hc=>rw[<-hc];exact hm.2 _ _ he (.mp _ _ _ r h0)
 |kK id r h0=>intro h;cases h;exact(V.kK id r h0).mono eE
 |ms id bL len cap r addr h0 Ge eZ ha=>
  intro h
  cases h with
  |r=>exact(V.ms id bL len cap r addr h0 Ge eZ ha).mono eE
  |m hl he=>rw[<-he];exact hm.1 _ _ _ hl (.ms _ _ _ _ _ _ h0 Ge eZ ha)
 |gC id bL cap bR h0=>
  intro h
  cases h with
  |r=>exact .gC _ _ _ _ h0
  |m hl he=>rw[<-he];exact hm.1 _ _ _ hl (.gC _ _ _ _ h0)
 |mc id bL len cap r addr h0 Ge eZ ha=>intro h;cases h;exact(V.mc id bL len cap r addr h0 Ge eZ ha).mono eE
 |mZ id bL bR=>intro h;cases h;exact .mZ _ _ _
end
inductive QU (id:Nat) (elems:List AV):gD->gD->Prop
 |r (b:gD):QU id elems b b
 |cells {cB:Nat} {xs ys:List AV} (h:z6 id elems xs ys):QU id elems (.cells cB xs) (.cells cB ys)
theorem QU.holds{id:Nat}{elems:List AV}{G G':cg}(eE:sr G G')(hm:(∀bL len v,bL+len<=elems.length->V G (.ms id bL len) v->V G' (.sl false ((elems.drop bL).take len)) v)/\ ∀e v,elems=[e]->V G (.mp id 0 0) v->V G' (.ip e.cells) v)
  {b b':gD} {r:uW} {o:Obj} (h:QU id elems b b') (hh:Holds G r b' o):Holds G' r b o:=by
 cases h with
 |r=>exact hh.mono eE
 |cells hl=>
  cases hh with
  |cells _ _ cs e eC ee h0 iM jz eZ hV=>
   refine .cells _ _ cs e eC ee h0 (λx hx=>?_) (λx hx=>?_) (by rw[hl.length];exact eZ) λk x hx=>?_
   ·obtain⟨y,hy,hc⟩:=hl.mem hx
    rw[hc.cells.length];exact iM y hy
   ·obtain⟨y,hy,hc⟩:=hl.dn.mem hx
    rw[hc.cX];exact jz y hy
   ·obtain⟨y,hy,hc⟩:=hl.dn.get hx
    obtain⟨v,hv,VY⟩:=hV k y hy
    exact⟨v,hv,hc.V eE hm VY⟩
theorem Sp{P:Program}{N:Nat}{ρ:Option Nat}{Q:Exit->Env->St->Prop}{bI E2:Env}{s S2:St}{c:Code}{id cB:Nat}{elems:List AV}(hg:bH s.heap id=some (.cells cB elems))
  (hE: ∀t x,bH E2 t=some x-> ∃y,bH bI t=some y/\Fz id elems x y) (hS: ∀i b,bH S2.heap i=some b->i≠id/\ ∃b',bH s.heap i=some b'/\QU id elems b b') (hc:S2.bT=s.bT)
  (hd: ∀i,bH s.heap i=some .gr->bH S2.heap i=some .gr) (h:lT P N ρ c Q E2 S2):lT P N ρ c Q bI s:=λG w a hn=>by
 obtain⟨G',h1,h2,h3⟩:=kg hn.iQ (bL:=0) (len:=0) hg (AK _)
 have del: ∀{i b},i≠id->bH s.heap i=some b->bH (eB s.heap id) i=some b:=λ{i b}eV hb=>by
  rw[fH,dM (λe=>eV e.symm)];exact hb
 have Sq:eL G' S2 w:=⟨h1.gP,λi b hi=>by
   obtain⟨eV,b',nq,hf⟩:=hS i b hi
   rcases h1.heap i b' (del eV nq)with⟨r,o,e1,e2,_⟩|⟨e1,sz,h0,e2⟩
   ·refine .inl ⟨r,o,e1,e2,?_⟩
    rcases hn.iQ.heap i b' nq with⟨r',o',q1,q2,q3⟩|⟨q1,_,_,q2⟩
    ·rw[h2.le.own _ _ q1]at e1;cases e1
     rw[e2]at q2;cases q2
     exact hf.holds h2.le h3 q3
    ·rw[h2.stay i (hn.iQ.lt _ _ nq) q1]at e1;cases e1
   ·refine .inr ⟨e1,sz,h0,?_⟩
    subst e2
    cases hf with
    |r=>rfl
    |cells hl=>
     rename_i xs
     have:xs=[]:=Kx (by simpa using hl.length)
     rw[this],
  λi i' b b' r r' g1 g2=>by
   obtain⟨n1,c1,k1,_⟩:=hS i b g1
   obtain⟨n2,c2,k2,_⟩:=hS i' b' g2
   exact h1.apart i i' c1 c2 r r' (del n1 k1) (del n2 k2),
  λi b r o g1=>by
   obtain⟨n1,c1,k1,_⟩:=hS i b g1
   exact h1.clear i c1 r o (del n1 k1),
  λi hi=>h1.ct i (by rw[hc]at hi;exact hi),
  λi b g1=>by
   obtain⟨n1,c1,k1,_⟩:=hS i b g1
   rw[hc];exact hn.iQ.lt i c1 k1⟩
 have LX:Ext G s w G' S2 w:=⟨h2.le,rfl,rfl,rfl,eF _,λ_ _ _=>rfl,h2.jA,h2.iW,λi b g1=>by
   obtain⟨n1,c1,k1,_⟩:=hS i b g1
   exact .inl ⟨c1,k1⟩,by rw[hc];exact eF _,hd,h2.stay,h2.drawn⟩
 refine lT.later h hn.iQ hn.known LX ⟨Sq,λt' x hx=>?_,hn.size,hn.mg.ext LX,hn.known.le h2.le⟩
 obtain⟨y,hy,hf⟩:=hE t' x hx
 obtain⟨q1,q2⟩:=hn.bI _ _ hy
 exact⟨q1,hf.V h2.le h3 q2⟩
end Go.Am
end
section
namespace Go.Am
open Go.RowKit
def ju(o:Option Nat)(n:Nat):Bool:=match o with
 |some k=>Nat.beq k n
 |none=>false
theorem fc{o:Option Nat}{n:Nat}:ju o n=true↔o=some n:=by
 unfold ju
 cases o with
 |none=>simp
 |some k=>simp[Nat.beq_eq]
end Go.Am
end
