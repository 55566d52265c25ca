/- The logic AM, D: rules for generated walks, states under new names, frames, hints. -/
import Derived.Test.YtfdnjgoegamonaaGreatDoorAmC
set_option linter.all false
section
namespace Go.Am
open Go.RowKit
theorem oP{β:Type}: ∀{l:List (Nat×β)}{i:Nat}{x:β},bJ l i=some x->eF l i x=l
 | [],_,_,h=>by simp[di,cZ]at h
 |(k,y)::r,i,x,h=>by
  simp only[di,cZ]at h;simp only[LB,ub];split at h
  ·rename_i e;subst e;cases h;simp
  ·rename_i e;rw[dY e,oP h]
def Gj(g:Option (Nat×Bool))(bX:Env)(A B:Env->Prop):Prop:=match g with
 |none=>A bX
 |some (d,want)=>match bJ bX d with
  |some (.bool b)=>(b=want->A (eF bX d (.bool want)))/\(b=!want->B (eF bX d (.bool (!want))))
  |some (.eC [])=>B bX
  |_=>False
theorem IC{g:Option (Nat×Bool)}{bX:Env}{A B:Env->Prop}{A' B':Prop}(h:Gj g bX A B)(ha:A bX->A')(hb:B bX->B'):Gg g bX A' B':=by
 unfold Gj at h;unfold Gg;split at h
 ·exact ha h
 ·split at h
  ·rename_i b he;simp only[he];refine⟨λe=>ha ?_,λe=>hb ?_⟩
   ·have:=h.1 e;subst e;rwa[oP he]at this
   ·have:=h.2 e;subst e;rwa[oP he]at this
  ·rename_i he;simp only[he];exact hb h
  ·cases h
theorem yN{P:Program}{op:Op}{K K':AV->St->Prop}{bX:Env}{s:St}(h:ows P op K bX s)(hk: ∀v s',K v s'->K' v s'):ows P op K' bX s:=by
 unfold ows at h |-
 split at h
 ·split at h
  ·exact⟨h.1,h.2.mono hk⟩
  ·exact h.mono hk
  ·cases h
 ·split at h
  ·exact hk _ _ h
  ·cases h
def ID(P:Program)(l:List Oper)(K:Env->St->Prop):List Step->List (Nat×Env×AV)->Env->St->Prop
 | [],_,bX,s=>K bX s
 |.iQ i note::r,tr,bX,s=>match l[i]? with
  |some o=>Gj (mF l o).guard bX (λbX=>match jc P o.op (je (iR o) bX) s with
    |some (v,_)=>ID P l K r (if note then(i,je (iR o) bX,v)::tr else tr) (fQ o.dst v bX) s
    |none=>False) (λbX=>ID P l K r tr (fQ o.dst (.eC []) bX) s)
  |none=>False
 |.iI i xk::r,tr,bX,s=>match l[i]? with
  |some o=>Gj (mF l o).guard bX (λbX=>ows P o.op (λv s'=>tc P l tr s' xk/\ID P l K r tr (fQ o.dst v bX) s') (je (iR o) bX) s) (λbX=>ID P l K r tr (fQ o.dst (.eC []) bX) s)
  |none=>False
 |.alloc i::r,tr,bX,s=>match l[i]? with
  |some o=>match jc P o.op [] s with
   |some (v,s')=>ID P l K r tr (fQ o.dst v bX) s'
   |none=>False
  |none=>False
theorem rK{P:Program}{l:List Oper}{K:Env->St->Prop}: ∀{cu:List Step}{tr:List (Nat×Env×AV)}{bX:Env}{s:St},ID P l K cu tr bX s->AJ P l K cu tr bX s
 | [],_,_,_,h=>h
 |.iQ i note::r,tr,bX,s,h=>by
  simp only[ID]at h;simp only[AJ];split at h
  ·rename_i o ho;simp only[ho];refine IC h (λh=>?_) (λh=>rK h);split at h
   ·rename_i v s' hx;simp only[hx];exact rK h
   ·cases h
  ·cases h
 |.iI i xk::r,tr,bX,s,h=>by
  simp only[ID]at h;simp only[AJ];split at h
  ·rename_i o ho;simp only[ho];exact IC h (λh=>yN h λ_ _ h=>⟨h.1,rK h.2⟩) (λh=>rK h)
  ·cases h
 |.alloc i::r,tr,bX,s,h=>by
  simp only[ID]at h;simp only[AJ];split at h
  ·rename_i o ho;simp only[ho];split at h
   ·rename_i v s' hx;simp only[hx];exact rK h
   ·cases h
  ·cases h
structure DI where
 st:Step
 ins:Option Ins
 aa8:List Nat
def Kj(l:List Oper):List Step->List DI
 | []=>[]
 |st::r=>⟨st,(l[st.idx]?).map (mF l),(match l[st.idx]? with|some o=>iR o|none=>[])⟩::Kj l r
def BA:List (Nat×Op×Env×AV)->Nat->Option (Op×Env×AV)
 | [],_=>none
 |(k,x)::r,i=>if k=i then some x else BA r i
def xn(P:Program)(tr:List (Nat×Op×Env×AV))(s:St):List Nat->Prop
 | []=>True
 |j::r=>(match BA tr j with
  |some (op,e,v)=>jc P op e s=some (v,s)
  |none=>True)/\xn P tr s r
def dq(P:Program)(K:Env->St->Prop):List DI->List (Nat×Op×Env×AV)->Env->St->Prop
 | [],_,bX,s=>K bX s
 |⟨.iQ i note,some n,sl⟩::r,tr,bX,s=>Gj n.guard bX (λbX=>match jc P n.op (je sl bX) s with
   |some (v,_)=>dq P K r (if note then(i,n.op,je sl bX,v)::tr else tr) (fQ n.dst v bX) s
   |none=>False) (λbX=>dq P K r tr (fQ n.dst (.eC []) bX) s)
 |⟨.iI _ xk,some n,sl⟩::r,tr,bX,s=>Gj n.guard bX (λbX=>ows P n.op (λv s'=>xn P tr s' xk/\dq P K r tr (fQ n.dst v bX) s') (je sl bX) s) (λbX=>dq P K r tr (fQ n.dst (.eC []) bX) s)
 |⟨.alloc _,some n,_⟩::r,tr,bX,s=>match jc P n.op [] s with
  |some (v,s')=>dq P K r tr (fQ n.dst v bX) s'
  |none=>False
 |⟨_,none,_⟩::_,_,_,_=>False
def PW(l:List Oper)(i:Nat):Op:=match l[i]? with
 |some o=>o.op
 |none=>.move (.const undef)
def Pf(l:List Oper)(tr:List (Nat×Env×AV)):List (Nat×Op×Env×AV):=tr.map λp=>(p.1,PW l p.1,p.2.1,p.2.2)
theorem Ew(l:List Oper): ∀(tr:List (Nat×Env×AV))(j:Nat),BA (Pf l tr) j=(qE tr j).map λp=>(PW l j,p.1,p.2)
 | [],j=>rfl
 |(k,e,v)::r,j=>by
  have ih:=Ew l r j;unfold Pf at ih;simp only[Pf,wy,BA,qE];split
  ·rename_i h;subst h;rfl
  ·exact ih
theorem yO{P:Program}{l:List Oper}{tr:List (Nat×Env×AV)}{s:St}: ∀{xk:List Nat},xn P (Pf l tr) s xk->tc P l tr s xk
 | [],_=>trivial
 |j::r,⟨h1,h2⟩=>by
  refine⟨?_,yO h2⟩;rw[Ew]at h1;split
  ·rename_i e v o hf hl;simp only[hf,gX,PW,hl]at h1;exact h1
  ·trivial
theorem pN{P:Program}{l:List Oper}{K:Env->St->Prop}: ∀{cu:List Step}{tr:List (Nat×Env×AV)}{bX:Env}{s:St},dq P K (Kj l cu) (Pf l tr) bX s->ID P l K cu tr bX s
 | [],_,_,_,h=>h
 |st::r,tr,bX,s,h=>by
  simp only[Kj]at h;cases ho:l[st.idx]? with
  |none=>
   simp only[ho,Su]at h;cases st<;>exact h.elim
  |some o=>
   simp only[ho,gX]at h;cases st with
   |iQ i note=>
    simp only[Step.idx]at ho;simp only[dq]at h;simp only[ID,ho];have key: ∀{bX:Env},(match jc P (mF l o).op (je (iR o) bX) s with
      |some (v,_)=>dq P K (Kj l r) (if note then(i,(mF l o).op,je (iR o) bX,v)::Pf l tr else Pf l tr) (fQ (mF l o).dst v bX) s
      |none=>False)->(match jc P o.op (je (iR o) bX) s with
      |some (v,_)=>ID P l K r (if note then(i,je (iR o) bX,v)::tr else tr) (fQ o.dst v bX) s
      |none=>False):=λh=>by
     have e:(mF l o).op=o.op:=rfl;rw[e]at h;split at h
     ·rename_i v s1 hv
      try simp only[hv]
      refine pN ?_;cases note
      ·exact h
      ·simp only[wz]at h |-
       have: ∀e,Pf l ((i,e,v)::tr)=(i,o.op,e,v)::Pf l tr:=λe=>by simp[Pf,PW,ho]
       rw[this];exact h
     ·cases h
    unfold Gj at h |-
    split at h
    ·exact key h
    ·split at h
     ·exact⟨λe=>key (h.1 e),λe=>pN (h.2 e)⟩
     ·exact pN h
     ·cases h
   |iI i xk=>
    simp only[Step.idx]at ho;simp only[dq]at h;simp only[ID,ho];unfold Gj at h |-
    split at h
    ·exact yN h λ_ _ h=>⟨yO h.1,pN h.2⟩
    ·split at h
     ·exact⟨λe=>yN (h.1 e) λ_ _ h=>⟨yO h.1,pN h.2⟩,λe=>pN (h.2 e)⟩
     ·exact pN h
     ·cases h
   |alloc i=>
    simp only[Step.idx]at ho;simp only[dq]at h;simp only[ID,ho];split at h
    ·rename_i v s' hv;have Wr:jc P o.op [] s=some (v,s'):=hv;rw[Wr];exact pN h
    ·cases h
def IE(op:Op):List Nat:=op.operands.toList.flatMap Rn
def S8(I:List Ins):List Step->List DI
 | []=>[]
 |st::r=>⟨st,I[st.idx]?,(match I[st.idx]? with|some n=>IE n.op|none=>[])⟩::S8 I r
theorem Mp(l:List Oper): ∀cu,S8 (ins l) cu=Kj l cu
 | []=>rfl
 |st::r=>by
  have e:(ins l)[st.idx]? =(l[st.idx]?).map (mF l):=by unfold ins;rw[sW]
  simp only[S8,Kj,Mp l r,e];cases l[st.idx]?<;>rfl
section
variable {P:Program} {K:Env->St->Prop} {d:Option Nat} {op:Op} {r:List Ins} {bX:Env} {s:St} {t:Nat} {w:Bool}
end
section
variable {P:Program} {K:Env->St->Prop} {d:Option Nat} {op:Op} {r:List DI} {bX:Env} {s:St} {t:Nat} {w:Bool} {i:Nat} {note:Bool} {sl xk:List Nat} {tr:List (Nat×Op×Env×AV)} {st:Step}
end
section
variable {P:Program} {N:Nat} {ρ:Option Nat} {Q:Exit->Env->St->Prop} {bX:Env} {s:St} {c:Code}
end
theorem GI.self{s:St}(h: ∀id,bJ s.heap id≠some .gK):GI s s:=⟨λid b hg=>⟨hg,λe=>by subst e;exact h id hg⟩,eD _⟩
def um:gU->Bool
 |.gK=>true
 |.cells _ _=>false
 |.loop _=>false
def nL:List (Nat×gU)->Bool
 | []=>true
 |(_,b)::r=>!um b&&nL r
theorem oQ: ∀{l:List (Nat×gU)},nL l=true-> ∀id,bJ l id≠some .gK
 | [],_,id,h=>by simp[di,cZ]at h
 |(k,b)::r,hn,id,h=>by
  simp only[di,cZ]at h;split at h
  ·cases h;simp[nL,um]at hn
  ·simp only[nL,fE]at hn;exact oQ hn.2 id h
theorem w64{n:Int}(h1: -9223372036854775808<=n)(h2:n<=9223372036854775807):IntKind.i64.wrap n=n:=by rw[IntKind.wrap_i64];omega
theorem oR{β:Type}: ∀{l:List (Nat×β)}{i:Nat}{x:β},bJ l i=some x->(i,x)∈l
 | [],i,x,h=>by simp[di,cZ]at h
 |(k,y)::r,i,x,h=>by
  simp only[di,cZ]at h;split at h
  ·rename_i e;subst e;cases h;simp
  ·exact JO _ (oR h)
section
@[simp] theorem Vr(l:List AV):(AV.agg l).cells=l:=rfl
@[simp] theorem Vs(k:IntKind)(n:Int):(AV.int k n).cells=[.int k n]:=rfl
@[simp] theorem S9(b:Bool):(AV.bool b).cells=[.bool b]:=rfl
@[simp] theorem Vt(b:ByteArray):(AV.str b).cells=[.str b]:=rfl
@[simp] theorem WO(b:Bool)(l:List AV):(AV.sl b l).cells=[.sl b l]:=rfl
@[simp] theorem WQ(i a b:Nat):(AV.ms i a b).cells=[.ms i a b]:=rfl
@[simp] theorem WR(i a b:Nat):(AV.mp i a b).cells=[.mp i a b]:=rfl
@[simp] theorem Ta:AV.iO.cells=[.iO]:=rfl
@[simp] theorem Tb:AV.nG.cells=[.nG]:=rfl
@[simp] theorem WS(f:FuncId)(l:List AV):(AV.fn f l).cells=[.fn f l]:=rfl
@[simp] theorem Tc(l:List AV):(AV.agg l).dn=false:=rfl
@[simp] theorem Td(k:IntKind)(n:Int):(AV.int k n).dn=true:=rfl
@[simp] theorem Rw(b:Bool):(AV.bool b).dn=true:=rfl
@[simp] theorem Te(b:ByteArray):(AV.str b).dn=true:=rfl
@[simp] theorem Vu(b:Bool)(l:List AV):(AV.sl b l).dn=true:=rfl
@[simp] theorem Vv(i a b:Nat):(AV.ms i a b).dn=true:=rfl
@[simp] theorem Vw(i a b:Nat):(AV.mp i a b).dn=true:=rfl
@[simp] theorem Rx:AV.iO.dn=true:=rfl
@[simp] theorem Ry:AV.nG.dn=true:=rfl
@[simp] theorem Vx(f:FuncId)(l:List AV):(AV.fn f l).dn=true:=rfl
end
theorem GP(t:Nat)(r:List Nat)(bX:Env):je (t::r) bX=(match bJ bX t with
  |some x=>(t,x)::je r bX
  |none=>je r bX):=by
 simp only[je,List.filterMap_cons];cases bJ bX t<;>rfl
end Go.Am
end
section
namespace Go.Am
open Go.RowKit
mutual
inductive Co (ok:Nat->Bool) (π:Nat->Nat):AV->AV->Prop
 |c {x:AV} (h:x.dI=true):Co ok π x x
 |s {b:Bool} {l:List AV} (h:fj l=true):Co ok π (.sl false l) (.sl b l)
 |l {b:Bool} {xs ys:List AV} (h:sF ok π xs ys):Co ok π (.sl false xs) (.sl b ys)
 |n {id a:Nat}:Co ok π (.ms id a 0) (.sl true [])
 |mp {id fL el off:Nat} (h:ok id=true) (h':π id=fL):Co ok π (.mp id el off) (.mp fL el off)
 |y {id fL:Nat} (h:ok id=true) (h':π id=fL):Co ok π (.lf id) (.lf fL)
 |ms {id fL a b:Nat} (h:ok id=true) (h':π id=fL):Co ok π (.ms id a b) (.ms fL a b)
 |mc {id fL a b c:Nat} (h:ok id=true) (h':π id=fL):Co ok π (.mc id a b c) (.mc fL a b c)
 |mf {id fL a b b' c:Nat} (h:ok id=true) (h':π id=fL) (hb:b=b'):Co ok π (.ms id a b) (.mc fL a b' c)
 |e {id fL a b b':Nat} (h:ok id=true) (h':π id=fL) (hb:b=b'):Co ok π (.ms id a b) (.ms fL a b')
 |a {xs ys:List AV} (h:sF ok π xs ys):Co ok π (.agg xs) (.agg ys)
 |t {xs ys:List AV} (h:sF ok π xs ys):Co ok π (.eC xs) (.eC ys)
 |f {g:FuncId} {xs ys:List AV} (h:sF ok π xs ys):Co ok π (.fn g xs) (.fn g ys)
inductive sF (ok:Nat->Bool) (π:Nat->Nat):List AV->List AV->Prop
 |z:sF ok π [] []
 |k {x y:AV} {xs ys:List AV} (h:Co ok π x y) (hs:sF ok π xs ys):sF ok π (x::xs) (y::ys)
 |r {xs:List AV} (h:fj xs=true):sF ok π xs xs
 |p {xs ys xs' ys':List AV} (h:sF ok π xs ys) (h':sF ok π xs' ys'):sF ok π (xs++xs') (ys++ys')
end
inductive A0 (ok:Nat->Bool) (π:Nat->Nat):gU->gU->Prop
 |cells {cN:Nat} {xs ys:List AV} (h:sF ok π xs ys):A0 ok π (.cells cN xs) (.cells cN ys)
 |cut {cN:Nat} {xs ys zs:List AV} (h:sF ok π xs ys):A0 ok π (.cells cN xs) (.cells cN (ys++zs))
 |gK:A0 ok π .gK .gK
 |loop {ks:List Nat} {xs ys:List AV} {N:Nat} {ps:List Tmp} {a b:Code} {st:LoopState} {pd:Option Code} (h:sF ok π xs ys):A0 ok π (.loop ⟨AX ks xs,N,ps,a,b,st,pd⟩) (.loop ⟨AX ks ys,N,ps,a,b,st,pd⟩)
theorem nl{l:List AV}(h:fj l=true){i:Nat}{x:AV}(hx:l[i]? =some x):x.dI=true:=eJ.1 h x (gT hx)
section
variable {ok:Nat->Bool} {π:Nat->Nat} {G G':cx}
theorem sF.length: ∀{xs ys:List AV},sF ok π xs ys->xs.length=ys.length
 |_,_,.z=>rfl
 |_,_,.k _ hs=>by simp[hs.length]
 |_,_,.r _=>rfl
 |_,_,.p h h'=>by simp[h.length,h'.length]
theorem sF.get: ∀{xs ys:List AV},sF ok π xs ys-> ∀{i:Nat}{x:AV},xs[i]? =some x-> ∃y,ys[i]? =some y/\Co ok π x y
 |_,_,.z,i,x,h=>by simp at h
 |_,_,.k h0 hs,i,x,h=>by
  cases i with
  |zero=>simp at h;subst h;exact⟨_,rfl,h0⟩
  |succ i=>exact hs.get (by simpa using h)
 |_,_,.r hc,i,x,h=>⟨x,h,.c (nl hc h)⟩
 |_,_,.p (xs:=xs) (ys:=ys) (xs':=xs') (ys':=ys') h1 h2,i,x,h=>by
  have hl:=h1.length;by_cases hi:i<xs.length
  ·rw[nD hi]at h;obtain⟨y,hy,hc⟩:=h1.get h;exact⟨y,by rw[nD (by omega)];exact hy,hc⟩
  ·rw[qb (by omega)]at h;obtain⟨y,hy,hc⟩:=h2.get h;exact⟨y,by rw[qb (by omega),<-hl];exact hy,hc⟩
structure Seen (ok:Nat->Bool) (π:Nat->Nat) (G G':cx):Prop where
 ir: ∀b o v,G.ir b o=some v->G'.ir b o=some v
 own: ∀id r,ok id=true->G.own (π id)=some r->G'.own id=some r
theorem Co.cells{x y:AV}(h:Co ok π x y):sF ok π x.cells y.cells:=by
 have one: ∀{x y:AV},x.cells=[x]->y.cells=[y]->Co ok π x y->sF ok π x.cells y.cells:=λh1 h2 h=>by rw[h1,h2];exact .k h .z
 cases h with
 |c hc=>exact .r (eJ.2 (lV hc))
 |s hc=>exact one rfl rfl (.s hc)
 |l hc=>exact one rfl rfl (.l hc)
 |n=>exact one rfl rfl .n
 |mp h h'=>exact one rfl rfl (.mp h h')
 |y h h'=>exact one rfl rfl (.y h h')
 |ms h h'=>exact one rfl rfl (.ms h h')
 |mc h h'=>exact one rfl rfl (.mc h h')
 |mf h h' hb=>exact one rfl rfl (.mf h h' hb)
 |e h h' hb=>exact one rfl rfl (.e h h' hb)
 |a h=>exact h
 |t h=>exact one rfl rfl (.t h)
 |f h=>exact one rfl rfl (.f h)
theorem Co.dn{x y:AV}(h:Co ok π x y):x.dn=y.dn:=by cases h<;>rfl
theorem sF.dB: ∀{xs ys:List AV},sF ok π xs ys->sF ok π (dB xs) (dB ys)
 |_,_,.z=>.z
 |_,_,.k h hs=>by rw[ju,ju];exact .p h.cells hs.dB
 |_,_,.r hc=>.r (eJ.2 λy hy=>by
  rw[Go.Am.dB,tK]at hy;obtain⟨e,he,hx⟩:=hy;exact lV (eJ.1 hc e he) y hx)
 |_,_,.p h h'=>by rw[dN,dN];exact .p h.dB h'.dB
theorem sF.mem{xs ys:List AV}(h:sF ok π xs ys){x:AV}(hx:x∈xs): ∃y∈ys,Co ok π x y:=by
 obtain⟨i,hi,rfl⟩:=ry hx;obtain⟨y,hy,hc⟩:=h.get (dR hi);exact⟨y,gT hy,hc⟩
theorem Co.V(hG:Seen ok π G G'){x y:AV}{v:Value}(hv:V G y v):Co ok π x y->V G' x v:=by
 induction hv generalizing x with
 |any v=>intro h;cases h;exact .any _
 |bool b=>intro h;cases h<;>exact .bool b
 |int k n=>intro h;cases h<;>exact .int k n
 |str s=>intro h;cases h<;>exact .str s
 |iO=>intro h;cases h<;>exact .iO
 |nG=>intro h;cases h<;>exact .nG
 |slnil full cn cap hf hb=>
  intro h;cases h with
  |c=>exact .slnil full cn cap hf hb
  |s=>exact .slnil false cn cap (λe=>by cases e) hb
  |l hl=>
   rename_i xs;have:xs=[]:=Gs (by simpa using hl.length);subst this;exact .slnil false cn cap (λe=>by cases e) hb
  |n=>exact .ia _ _ _ _ (hf rfl)
 |sl full elems b off cN cap val ko kc eE jH iw hV ih=>
  intro h;cases h with
  |c hc=>exact .sl full elems b off cN cap val ko kc eE jH (λk hk=>hG.ir _ _ _ (iw k hk)) λk x hx=>(hV k x hx).dI hG.ir (by
    have hc:fj elems=true:=by simpa[AV.dI]using hc
    have hm:x∈dB elems:=gT hx;rw[dB,tK]at hm;obtain⟨e,he,hx⟩:=hm;exact lV (eJ.1 hc e he) x hx)
  |s hc=>exact .sl false elems b off cN cap val ko (λe=>by cases e) eE jH (λk hk=>hG.ir _ _ _ (iw k hk)) λk x hx=>(hV k x hx).dI hG.ir (by
    have hm:x∈dB elems:=gT hx;rw[dB,tK]at hm;obtain⟨e,he,hx⟩:=hm;exact lV (eJ.1 hc e he) x hx)
  |l hl=>
   rw[<-hl.length];exact .sl false _ b off cN cap val (by rw[hl.length];exact ko) (λe=>by cases e) (λx hx=>by
     obtain⟨y,hy,hc⟩:=hl.mem hx;rw[hc.cells.length];exact eE y hy) (λx hx=>by
     obtain⟨y,hy,hc⟩:=hl.dB.mem hx;rw[hc.dn];exact jH y hy) (λk hk=>hG.ir _ _ _ (iw k (by rw[<-hl.length];exact hk))) λk x hx=>by
     obtain⟨y,hy,hc⟩:=hl.dB.get hx;exact ih k y hy hc
  |n=>exact .ia _ _ _ _ (by have:=kc rfl;simpa using this)
 |ip cells b off val iw hV ih=>
  intro h;cases h with
  |c hc=>exact .ip cells b off val (λk hk=>hG.ir _ _ _ (iw k hk)) λk x hx=>(hV k x hx).dI hG.ir (nl (by simpa[AV.dI]using hc) hx)
 |mp id el off r h0=>
  intro h;cases h with
  |c hc=>cases hc
  |mp ho hp=>subst hp;exact .mp _ _ _ r (hG.own _ _ ho h0)
 |ms id b9 len cap r addr h0 eP fB ha=>
  intro h;cases h with
  |c hc=>cases hc
  |ms ho hp=>subst hp;exact .ms _ _ _ _ r addr (hG.own _ _ ho h0) eP fB ha
  |e ho hp hb=>subst hp;subst hb;exact .ms _ _ _ _ r addr (hG.own _ _ ho h0) eP fB ha
 |ia id b9 cap cn h0=>
  intro h;cases h with
  |c hc=>cases hc
  |ms ho hp=>exact .ia _ _ _ _ h0
  |e ho hp hb=>subst hb;exact .ia _ _ _ _ h0
 |mc id b9 len cap r addr h0 eP fB ha=>
  intro h;cases h with
  |c hc=>cases hc
  |mc ho hp=>subst hp;exact .mc _ _ _ _ r addr (hG.own _ _ ho h0) eP fB ha
  |mf ho hp hb=>subst hp;subst hb;exact .ms _ _ _ _ r addr (hG.own _ _ ho h0) eP fB ha
 |nI id b9 cn=>
  intro h;cases h with
  |c hc=>cases hc
  |mc ho hp=>exact .nI _ _ _
  |mf ho hp hb=>subst hb;exact .ia _ _ _ _ rfl
 |fn f gk vs dJ h0 ih=>
  intro h;cases h with
  |c hc=>exact .fn f gk vs dJ λi x y hx hy=>(h0 i x y hx hy).dI hG.ir (nl (by simpa[AV.dI]using hc) hx)
  |f hl=>exact .fn f _ vs (by rw[hl.length];exact dJ) λi x y hx hy=>let⟨z,hz,hc⟩:=hl.get hx;ih i z y hz hy hc
 |lf id r h0=>
  intro h;cases h with
  |c hc=>cases hc
  |y ho hp=>subst hp;exact .lf _ r (hG.own _ _ ho h0)
 |agg cs vs dJ h0 ih=>
  intro h;cases h with
  |c hc=>exact .agg cs vs dJ λi x y hx hy=>(h0 i x y hx hy).dI hG.ir (nl (by simpa[AV.dI]using hc) hx)
  |a hl=>exact .agg _ vs (by rw[hl.length];exact dJ) λi x y hx hy=>let⟨z,hz,hc⟩:=hl.get hx;ih i z y hz hy hc
 |eC cs vs dJ h0 ih=>
  intro h;cases h with
  |c hc=>exact .eC cs vs dJ λi x y hx hy=>(h0 i x y hx hy).dI hG.ir (nl (by simpa[AV.dI]using hc) hx)
  |t hl=>exact .eC _ vs (by rw[hl.length];exact dJ) λi x y hx hy=>let⟨z,hz,hc⟩:=hl.get hx;ih i z y hz hy hc
theorem A0.holds(hG:Seen ok π G G'){b b':gU}{r:ua}{o:Obj}(h:A0 ok π b b')(hh:Holds G r b' o):Holds G' r b o:=by
 cases h with
 |gK=>cases hh;exact .gK
 |loop hl=>
  cases hh with
  |loop _ fn tmps d eG hV=>
   refine .loop _ fn tmps d eG λt x hx=>?_;have key: ∀{ks:List Nat}{xs ys:List AV},xs.length=ys.length->(∀(i:Nat)(x:AV),xs[i]? =some x-> ∃y:AV,ys[i]? =some y/\Co ok π x y)-> ∀t x,bJ (AX ks xs) t=some x-> ∃y,bJ (AX ks ys) t=some y/\Co ok π x y:=by
    intro ks
    induction ks with
    |nil=>intro xs ys _ _ t x hx;simp[AX,di,cZ]at hx
    |cons k r ih=>
     intro xs ys dJ hc t x hx;cases xs with
     |nil=>simp[AX,di,cZ]at hx
     |cons x0 xs=>
      cases ys with
      |nil=>simp at dJ
      |cons y0 ys=>
       simp only[AX,di,cZ]at hx |-
       split at hx
       ·rename_i e;cases hx;subst e;obtain⟨y,hy,hcy⟩:=hc 0 _ rfl;simp at hy;subst hy;exact⟨y0,by simp,hcy⟩
       ·rename_i e;rw[dY e];exact ih (by simpa using dJ) (λi x hx=>by simpa using hc (i+1) x (by simpa using hx)) t x hx
   obtain⟨y,hy,hcy⟩:=key hl.length (λi x hx=>hl.get hx) t x hx;obtain⟨h1,h2⟩:=hV t y hy;exact⟨h1,hcy.V hG h2⟩
 |cells hl=>
  cases hh with
  |cells _ _ cs e eG eE h0 ja jH fB hV=>
   refine .cells _ _ cs e eG eE h0 (λx hx=>?_) (λx hx=>?_) (by rw[hl.length];exact fB) λk x hx=>?_
   ·obtain⟨y,hy,hc⟩:=hl.mem hx;rw[hc.cells.length];exact ja y hy
   ·obtain⟨y,hy,hc⟩:=hl.dB.mem hx;rw[hc.dn];exact jH y hy
   ·obtain⟨y,hy,hc⟩:=hl.dB.get hx;obtain⟨v,hv,WT⟩:=hV k y hy;exact⟨v,hv,hc.V hG WT⟩
 |cut hl=>
  cases hh with
  |cells _ _ cs e eG eE h0 ja jH fB hV=>
   refine .cells _ _ cs e eG eE h0 (λx hx=>?_) (λx hx=>?_) (xz (Sv (AM _ (by rw[hl.length,lu];exact Nat.le_add_right _ _)) _) fB) λk x hx=>?_
   ·obtain⟨y,hy,hc⟩:=hl.mem hx;rw[hc.cells.length];exact ja y (DQ _ hy)
   ·obtain⟨y,hy,hc⟩:=hl.dB.mem hx;rw[hc.dn];exact jH y (by rw[dN];exact DQ _ hy)
   ·obtain⟨y,hy,hc⟩:=hl.dB.get hx;obtain⟨v,hv,WT⟩:=hV k y (by rw[dN,nD (fT.1 hy).1];exact hy);exact⟨v,hv,hc.V hG WT⟩
theorem A0.nil{b:gU}{cN:Nat}(h:A0 ok π b (.cells cN [])):b=.cells cN []:=by
 generalize hb:gU.cells cN []=b' at h;cases h with
 |gK=>cases hb
 |loop hl=>cases hb
 |cells hl=>
  cases hb;rename_i xs;have:xs=[]:=Gs (by simpa using hl.length);rw[this]
 |cut hl=>
  injection hb with h1 h2
  subst h1;rename_i xs ys zs;have h3:ys=[]:=(List.append_eq_nil_iff.1 h2.symm).1;have:xs=[]:=Gs (by rw[hl.length,h3];rfl);rw[this,<-h2]
theorem sF.V(hG:Seen ok π G G'){xs ys:List AV}{vs:Array Value}(h:sF ok π xs ys)(hv:VL G ys vs):VL G' xs vs:=
 ⟨by rw[h.length];exact hv.1,λi x v hx hi=>let⟨y,hy,hc⟩:=h.get hx;hc.V hG (hv.2 i y v hy hi)⟩
end
def has(h:List (Nat×gU))(id:Nat):Bool:=(bJ h id).isSome
theorem iK{h:List (Nat×gU)}{id:Nat}:has h id=true↔ ∃b,bJ h id=some b:=by
 unfold has;exact Bp
def gR(cn:Nat)(h:List (Nat×gU))(id:Nat):Bool:=Nat.blt id cn||has h id
structure IntoM (cn:Nat) (π:Nat->Nat) (S2 s:St):Prop where
 heap: ∀id b,bJ S2.heap id=some b->(∃b',bJ s.heap (π id)=some b'/\A0 (gR cn S2.heap) π b b')\/(cn<=id/\s.cr<=π id/\ ∃cN,0<cN/\b=.cells cN [])
 low: ∀id,id<cn->π id=id
 inj: ∀id fL b b',bJ S2.heap id=some b->bJ S2.heap fL=some b'->π id=π fL->id=fL\/s.cr<=π id
 lt: ∀id b,bJ S2.heap id=some b->id<S2.cr
 cb:cn<=S2.cr
structure qK (cn:Nat) (π:Nat->Nat) (S2 s:St):Prop extends IntoM cn π S2 s where
 gK: ∀id,bJ s.heap id=some .gK->id<cn/\bJ S2.heap id=some .gK
def gg(cn:Nat)(π:Nat->Nat)(h:List (Nat×gU))(G:cx):cx:={ir:=G.ir,own:=λid=>if gR cn h id=true then G.own (π id)else none}
section
variable {cn:Nat} {π:Nat->Nat} {S2 s s0:St} {G G0:cx} {w w0:World}
theorem BB:Seen (gR cn S2.heap) π G (gg cn π S2.heap G):=
 ⟨λ_ _ _ h=>h,λid r ho hr=>by simp only[gg,ho,wz];exact hr⟩
theorem oS{h:List (Nat×gU)}{id:Nat}(hl:id<cn):gR cn h id=true:=by simp[gR,hl]
theorem qL{h:List (Nat×gU)}{id:Nat}{b:gU}(hg:bJ h id=some b):gR cn h id=true:=by
 simp[gR,iK.2 ⟨b,hg⟩]
theorem xo{h:List (Nat×gU)}{id:Nat}{b:gU}(hg:bJ h id=some b):(gg cn π h G).own id=G.own (π id):=by
 simp only[gg,qL hg,wz]
theorem IntoM.jd(h:IntoM cn π S2 s)(hs:eQ G s w):eQ (gg cn π S2.heap G) S2 w:=by
 refine⟨hs.kS,λid b hg=>?_,λid fL b b' r r' h1 h2 o1 o2 eU=>?_,λid b r o hg ho=>?_,λid hid=>?_,h.lt⟩
 ·rw[xo hg];rcases h.heap id b hg with⟨b',oM,hc⟩|⟨_,hn,cN,h0,he⟩
  ·rcases hs.heap _ _ oM with⟨r,o,e1,e2,e3⟩|⟨e1,cN,h0,e2⟩
   ·exact .inl ⟨r,o,e1,e2,hc.holds BB e3⟩
   ·refine .inr ⟨e1,cN,h0,?_⟩;subst e2;exact hc.nil
  ·exact .inr ⟨hs.cE _ hn,cN,h0,he⟩
 ·rw[xo h1]at o1;rw[xo h2]at o2;rcases h.heap id b h1 with⟨c,hc,_⟩|⟨_,hn,_⟩
  ·rcases h.heap fL b' h2 with⟨c',Tf,_⟩|⟨_,hn,_⟩
   ·refine hs.apart _ _ c c' r r' hc Tf o1 o2 λe=>?_;rcases h.inj id fL b b' h1 h2 e with e|e
    ·exact eU e
    ·have:=hs.lt _ _ hc;omega
   ·rw[hs.cE _ hn]at o2;cases o2
  ·rw[hs.cE _ hn]at o1;cases o1
 ·rw[xo hg]at ho;rcases h.heap id b hg with⟨c,hc,_⟩|⟨_,hn,_⟩
  ·exact hs.clear _ c r o hc ho
  ·rw[hs.cE _ hn]at ho;cases ho
 ·have hb:=h.cb;have:gR cn S2.heap id=false:=by
   cases hq:gR cn S2.heap id with
   |false=>rfl
   |true=>
    simp only[gR,tY,ru]at hq;rcases hq with hq|hq
    ·omega
    ·obtain⟨b,hb⟩:=iK.1 hq;have:=h.lt id b hb;omega
  simp[gg,this]
theorem qK.ext(h:qK cn π S2 s)(h0:eQ G0 s0 w0)(hx:Ext G0 s0 w0 G s w)(hs:eQ G s w)(hb:s0.cr<=cn):Ext G0 s0 w0 (gg cn π S2.heap G) S2 w:=by
 have lo: ∀id,id<cn->(gg cn π S2.heap G).own id=G.own id:=λid hl=>by simp only[gg,oS hl,wz,h.low id hl]
 refine⟨⟨hx.le.ir,λid r ho=>?_⟩,hx.os,hx.tape,hx.output,hx.size,hx.keep,hx.jJ,λid r ho=>?_,λid b hg=>?_,xz hb h.cb,λid hd=>?_,λid hl ho=>?_,hx.drawn⟩
 ·have:id<s0.cr:=by
   by_cases hq:id<s0.cr
   ·exact hq
   ·rw[h0.cE id (by omega)]at ho;cases ho
  rw[lo id (by omega)];exact hx.le.own _ _ ho
 ·by_cases hl:id<cn
  ·rw[lo id hl]at ho;exact hx.jj id r ho
  ·have DT:gR cn S2.heap id=true:=by
    cases hq:gR cn S2.heap id with
    |true=>rfl
    |false=>simp[gg,hq]at ho
   have hh:has S2.heap id=true:=by
    simp only[gR,tY,ru]at DT;rcases DT with hq|hq
    ·exact absurd hq hl
    ·exact hq
   obtain⟨b,hg⟩:=iK.1 hh;rw[xo hg]at ho;rcases h.heap id b hg with⟨c,hc,_⟩|⟨_,hn,_⟩
   ·rcases hx.jj _ r ho with q|q
    ·rcases hx.ids _ c hc with⟨c0,q0⟩|q0
     ·exact .inr (.inr ⟨_,c0,r,q0,q,rfl⟩)
     ·rw[h0.cE _ q0]at q;cases q
    ·exact .inr q
   ·rw[hs.cE _ hn]at ho;cases ho
 ·by_cases hl:id<cn
  ·rcases h.heap id b hg with⟨c,hc,_⟩|⟨hn,_⟩
   ·rw[h.low id hl]at hc;exact hx.ids id c hc
   ·omega
  ·exact .inr (by omega)
 ·exact(h.gK id (hx.gK id hd)).2
 ·rw[lo id (by omega)];exact hx.stay id hl ho
theorem qK.mM(h:qK cn π S2 s): ∀{ds:List Deferred},pE G s ds->pE (gg cn π S2.heap G) S2 ds
 | [],_=>trivial
 |_::_,⟨⟨id,r,a,b,c,d⟩,hr⟩=>⟨⟨id,r,(h.gK id a).2,by simp only[gg];rw[dP (oS (h.gK id a).1),h.low id (h.gK id a).1];exact b,c,d⟩,h.mM hr⟩
end
structure Kk (cn:Nat) (π:Nat->Nat) (E2:Env) (S2:St) (bX:Env) (s:St):Prop where
 st:qK cn π S2 s
 bX: ∀t x,bJ E2 t=some x-> ∃y,bJ bX t=some y/\Co (gR cn S2.heap) π x y
section
variable {P:Program} {N:Nat} {ρ:Option Nat} {Q Q':Exit->Env->St->Prop} {bX E2:Env} {s S2:St} {cn:Nat} {π:Nat->Nat}
theorem Kk.now(h:Kk cn π E2 S2 bX s){G:cx}{a:Act}{w:World}(GQ: ∀id,ρ=some id->id<cn)(hn:xF G N ρ bX s a w):xF (gg cn π S2.heap G) N ρ E2 S2 a w:=by
 refine⟨h.st.jd hn.jd,λt x hx=>?_,hn.size,h.st.mM hn.mM,λid e=>?_⟩
 ·obtain⟨y,hy,hc⟩:=h.bX t x hx;exact⟨(hn.bX t y hy).1,hc.V BB (hn.bX t y hy).2⟩
 ·obtain⟨r,hr⟩:=hn.known id e;exact⟨r,by simp only[gg];rw[dP (oS (GQ id e)),h.st.low id (GQ id e)];exact hr⟩
def cA{σ τ:Type}(body:σ->Option (σ⊕τ)):Nat->σ->Option τ
 |0,_=>none
 |n+1,st=>match body st with
  |some (.inl AK)=>cA body n AK
  |some (.inr r)=>some r
  |none=>none
end
end Go.Am
end
section
namespace Go.Am
open Go.RowKit
def okF(fr:Nat->Bool)(h:List (Nat×gU))(id:Nat):Bool:=has h id&&!fr id
structure Fits (π σ:Nat->Nat) (fr:Nat->Bool) (H0 H1 s s':St):Prop where
 PX: ∀id b,bJ H0.heap id=some b-> ∃b',bJ s.heap (π id)=some b'/\A0 (gR 0 H0.heap) π b b'
 inj: ∀id fL b b',bJ H0.heap id=some b->bJ H0.heap fL=some b'->π id=π fL->id=fL
 lt: ∀id b,bJ H0.heap id=some b->id<H0.cr
 out: ∀id b,bJ s'.heap id=some b->fr id=false-> ∃b',bJ H1.heap (σ id)=some b'/\A0 (okF fr s'.heap) σ b b'/\(id<s.cr->has H0.heap (σ id)=true/\π (σ id)=id)
 keep: ∀id b,bJ s'.heap id=some b->fr id=true->bJ s.heap id=some b/\ ∀i b',bJ H0.heap i=some b'->π i≠id
 aan: ∀id fL b b',bJ s'.heap id=some b->bJ s'.heap fL=some b'->fr id=false->fr fL=false->σ id=σ fL->id=fL
 lt': ∀id b,bJ s'.heap id=some b->id<s'.cr
 cr:s.cr<=s'.cr
 gK: ∀id,bJ s.heap id=some .gK->bJ s'.heap id=some .gK
def lB(cr:Nat)(σ:Nat->Nat)(h:List (Nat×gU))(G G':cx):cx:={ir:=G'.ir,own:=λid=>if id<cr then G.own id else if has h id=true then G'.own (σ id)else none}
theorem Fits.Rz{π σ:Nat->Nat}{fr:Nat->Bool}{H0 H1 s s':St}(hf:Fits π σ fr H0 H1 s s'):IntoM 0 π H0 s:=
 ⟨λid b hg=>.inl (hf.PX id b hg),λid hl=>by omega,λid fL b b' h1 h2 e=>.inl (hf.inj id fL b b' h1 h2 e),λid b hg=>hf.lt id b hg,xC _⟩
theorem yP{H0 H1 s s':St}{v0 v:AV}{π σ:Nat->Nat}{fr:Nat->Bool}{G:cx}{w w':World}{e:Ending}(hf:Fits π σ fr H0 H1 s s')(hv:Co (okF fr s'.heap) σ v v0)(hs:eQ G s w)
  (hg:xe (gg 0 π H0.heap G) H0 w (λy t=>y=v0/\t=H1) e w'):xe G s w (λy t=>y=v/\t=s') e w':=by
 have Tg: ∀{id b},bJ H0.heap id=some b->(gg 0 π H0.heap G).own id=G.own (π id):=λhg=>xo hg;have RA: ∀{id r},(gg 0 π H0.heap G).own id=some r-> ∃b,bJ H0.heap id=some b:=λ{id r}ho=>by
  cases hq:gR 0 H0.heap id with
  |false=>simp[gg,hq]at ho
  |true=>
   simp only[gR,tY,ru,Nat.not_lt_zero,false_or]at hq;exact iK.1 hq
 have xH: ∀b,mE (gg 0 π H0.heap G) H0 b->mE G s b:=λb ⟨id,blk,r,g1,g2,g3⟩=>by
  rw[Tg g1]at g2;obtain⟨b',oM,_⟩:=hf.PX id blk g1;exact⟨π id,b',r,oM,g2,g3⟩
 obtain⟨val,G1,y,t,rfl,hV,hS,hE,rfl,rfl⟩:=hg;have Mq: ∀{id},id<s.cr->(lB s.cr σ s'.heap G G1).own id=G.own id:=λhl=>by simp[lB,hl]
 have RB: ∀{id b},¬id<s.cr->bJ s'.heap id=some b->(lB s.cr σ s'.heap G G1).own id=G1.own (σ id):=λ{id b}hl hg=>by
  simp[lB,hl,iK.2 ⟨_,hg⟩]
 have Kl: ∀{id b},bJ s'.heap id=some b->fr id=false->(lB s.cr σ s'.heap G G1).own id=G1.own (σ id):=λ{id b}hg rL=>by
  by_cases hl:id<s.cr
  ·rw[Mq hl];obtain⟨_,_,_,hq⟩:=hf.out id b hg rL;obtain⟨h1,h2⟩:=hq hl;obtain⟨c,hc⟩:=iK.1 h1;have h3:=Tg hc;rw[h2]at h3;cases hr:G.own id with
   |none=>rw[hr]at h3;exact(hE.stay _ (hf.lt _ _ hc) h3).symm
   |some r=>rw[hr]at h3;exact(hE.le.own _ _ h3).symm
  ·exact RB hl hg
 have eP:sJ G (lB s.cr σ s'.heap G G1):=⟨λb o v hi=>hE.le.ir b o v hi,λid r ho=>by
  have:id<s.cr:=by
   by_cases hq:id<s.cr
   ·exact hq
   ·rw[hs.cE id (by omega)]at ho;cases ho
  rw[Mq this];exact ho⟩
 have seen:Seen (okF fr s'.heap) σ G1 (lB s.cr σ s'.heap G G1):=⟨λ_ _ _ h=>h,λid r ho hr=>by
  simp only[okF,fE,qn]at ho;obtain⟨b,hb⟩:=iK.1 ho.1;rw[Kl hb ho.2];exact hr⟩
 have Vo: ∀{id b r},bJ s.heap id=some b->(∀i b',bJ H0.heap i=some b'->π i≠id)->G.own id=some r-> ¬mE (gg 0 π H0.heap G) H0 r.block:=λ{id b r}hg eU ho ⟨i,b',r',g1,g2,g3⟩=>by
  rw[Tg g1]at g2;obtain⟨c,hc,_⟩:=hf.PX i b' g1;exact hs.apart _ _ c b r' r hc hg g2 ho (eU i b' g1) g3
 have Ex: ∀{id b},bJ s'.heap id=some b->fr id=true->(lB s.cr σ s'.heap G G1).own id=G.own id:=λhg rL=>Mq (hs.lt _ _ (hf.keep _ _ hg rL).1);have Mr: ∀{id fL b b' r r'},bJ s'.heap id=some b->bJ s'.heap fL=some b'->fr id=false->fr fL=true->(lB s.cr σ s'.heap G G1).own id=some r->(lB s.cr σ s'.heap G G1).own fL=some r'->r.block≠r'.block:=
  λ{id fL b b' r r'}h1 h2 f1 f2 o1 o2 e=>by
   rw[Kl h1 f1]at o1;rw[Ex h2 f2]at o2;obtain⟨k1,k2⟩:=hf.keep _ _ h2 f2;have WU:=Vo k1 k2 o2;rcases hE.jj _ _ o1 with q|q|q
   ·obtain⟨c,hc⟩:=RA q;exact WU ⟨_,c,r,hc,q,e⟩
   ·have:=hs.jy k1 o2;omega
   ·rw[e]at q;exact WU q
 refine⟨val,lB s.cr σ s'.heap G G1,v,s',rfl,hv.V seen hV,⟨hS.kS,λid b hg=>?_,λid fL b b' r r' h1 h2 o1 o2 eU=>?_,λid b r o hg ho=>?_,λid hid=>?_,hf.lt'⟩,
  ⟨eP,hE.os,hE.tape,hE.output,hE.size,λb hb jT=>hE.keep b hb λq=>jT (xH b q),λb o u hi=>?_,λid r ho=>?_,λid b hg=>?_,hf.cr,hf.gK,λid hl ho=>by rw[Mq hl];exact ho,hE.drawn⟩,rfl,rfl⟩
 ·cases rL:fr id with
  |false=>
   rw[Kl hg rL];obtain⟨b',oM,hc,_⟩:=hf.out id b hg rL;rcases hS.heap _ _ oM with⟨r,o,e1,e2,e3⟩|⟨e1,cN,h0,e2⟩
   ·exact .inl ⟨r,o,e1,e2,hc.holds seen e3⟩
   ·refine .inr ⟨e1,cN,h0,?_⟩;subst e2;exact hc.nil
  |true=>
   rw[Ex hg rL];obtain⟨k1,k2⟩:=hf.keep _ _ hg rL;rcases hs.heap _ _ k1 with⟨r,o,e1,e2,e3⟩|q
   ·exact .inl ⟨r,o,e1,by rw[hE.keep _ (hs.jy k1 e1) (Vo k1 k2 e1)];exact e2,e3.mono eP⟩
   ·exact .inr q
 ·cases f1:fr id with
  |false=>
   cases f2:fr fL with
   |false=>
    rw[Kl h1 f1]at o1;rw[Kl h2 f2]at o2;obtain⟨c,hc,_⟩:=hf.out id b h1 f1;obtain⟨c',Tf,_⟩:=hf.out fL b' h2 f2;exact hS.apart _ _ c c' r r' hc Tf o1 o2 λe=>eU (hf.aan id fL b b' h1 h2 f1 f2 e)
   |true=>exact Mr h1 h2 f1 f2 o1 o2
  |true=>
   cases f2:fr fL with
   |false=>exactλe=>Mr h2 h1 f2 f1 o2 o1 e.symm
   |true=>
    rw[Ex h1 f1]at o1;rw[Ex h2 f2]at o2;exact hs.apart id fL b b' r r' (hf.keep _ _ h1 f1).1 (hf.keep _ _ h2 f2).1 o1 o2 eU
 ·show G1.ir r.block o=none;cases rL:fr id with
  |false=>
   rw[Kl hg rL]at ho;obtain⟨c,hc,_⟩:=hf.out id b hg rL;exact hS.clear _ c r o hc ho
  |true=>
   rw[Ex hg rL]at ho;obtain⟨k1,k2⟩:=hf.keep _ _ hg rL;cases hi:G1.ir r.block o with
   |none=>rfl
   |some u=>
    rcases hE.jJ _ _ _ hi with q|q|q
    ·have q':G.ir r.block o=some u:=q;rw[hs.clear id b r o k1 ho]at q';cases q'
    ·have:=hs.jy k1 ho;omega
    ·exact absurd q (Vo k1 k2 ho)
 ·have hc:=hf.cr;have hn:has s'.heap id=false:=by
   cases hq:has s'.heap id with
   |false=>rfl
   |true=>
    obtain⟨b,hb⟩:=iK.1 hq;have:=hf.lt' id b hb;omega
  have: ¬id<s.cr:=by omega
  simp[lB,this,hn]
 ·rcases hE.jJ b o u hi with q|q|q
  ·exact .inl q
  ·exact .inr (.inl q)
  ·exact .inr (.inr (xH b q))
 ·by_cases hl:id<s.cr
  ·rw[Mq hl]at ho;exact .inl ho
  ·have hh:has s'.heap id=true:=by
    cases hq:has s'.heap id with
    |true=>rfl
    |false=>simp[lB,hl,hq]at ho
   obtain⟨b,hb⟩:=iK.1 hh;rw[RB hl hb]at ho;rcases hE.jj _ _ ho with q|q|q
   ·obtain⟨c,hc⟩:=RA q;exact .inr (.inr (xH _ ⟨_,c,r,hc,q,rfl⟩))
   ·exact .inr (.inl q)
   ·exact .inr (.inr (xH _ q))
 ·cases rL:fr id with
  |false=>
   by_cases hl:id<s.cr
   ·obtain⟨_,_,_,hq⟩:=hf.out id b hg rL;obtain⟨h1,h2⟩:=hq hl;obtain⟨c,hc⟩:=iK.1 h1;obtain⟨b',oM,_⟩:=hf.PX _ c hc;rw[h2]at oM;exact .inl ⟨b',oM⟩
   ·exact .inr (by omega)
  |true=>exact .inl ⟨b,(hf.keep _ _ hg rL).1⟩
theorem CG{P:Program}{f:FuncId}{cD args:List AV}{H0 H1 s s':St}{v0 v:AV}{π σ:Nat->Nat}{fr:Nat->Bool}(h:dQ P f cD H0 λy t=>y=v0/\t=H1)(hf:Fits π σ fr H0 H1 s s')
  (ha:sF (gR 0 H0.heap) π cD args) (hv:Co (okF fr s'.heap) σ v v0):dQ P f args s λy t=>y=v/\t=s':=λG w vs hs DS=>
 (h _ w vs (hf.Rz.jd hs) (ha.V BB DS)).mono λ_ _ hg=>yP hf hv hs hg
theorem CH{P:Program}{id:Nat}{cD args:List AV}{H0 H1 s s':St}{v0 v:AV}{π σ:Nat->Nat}{fr:Nat->Bool}(h:jk P id cD H0 λy t=>y=v0/\t=H1)(hid:has H0.heap id=true)(hf:Fits π σ fr H0 H1 s s')
  (ha:sF (gR 0 H0.heap) π cD args) (hv:Co (okF fr s'.heap) σ v v0):jk P (π id) args s λy t=>y=v/\t=s':=λo G w r vs hs ho DS=>by
 obtain⟨b,hb⟩:=iK.1 hid;obtain⟨fn,tmps,assign,body,h1,h2⟩:=h o _ w r vs (hf.Rz.jd hs) (by rw[xo hb];exact ho) (ha.V BB DS);exact⟨fn,tmps,assign,body,h1,h2.mono λ_ _ hg=>yP hf hv hs hg⟩
mutual
inductive Fz (id:Nat) (elems:List AV):AV->AV->Prop
 |r (x:AV):Fz id elems x x
 |m {b9 len:Nat} {l:List AV} (hl:b9+len<=elems.length) (he:(elems.drop b9).take len=l):Fz id elems (.sl false l) (.ms id b9 len)
 |o {e:AV} {cs:List AV} (he:elems=[e]) (hc:e.cells=cs):Fz id elems (.ip cs) (.mp id 0 0)
 |a {xs ys:List AV} (h:AL id elems xs ys):Fz id elems (.agg xs) (.agg ys)
 |t {xs ys:List AV} (h:AL id elems xs ys):Fz id elems (.eC xs) (.eC ys)
 |f {g:FuncId} {xs ys:List AV} (h:AL id elems xs ys):Fz id elems (.fn g xs) (.fn g ys)
inductive AL (id:Nat) (elems:List AV):List AV->List AV->Prop
 |z:AL id elems [] []
 |k {x y:AV} {xs ys:List AV} (h:Fz id elems x y) (hs:AL id elems xs ys):AL id elems (x::xs) (y::ys)
 |r (xs:List AV):AL id elems xs xs
 |p {xs ys xs' ys':List AV} (h:AL id elems xs ys) (h':AL id elems xs' ys'):AL id elems (xs++xs') (ys++ys')
end
section
variable {id:Nat} {elems:List AV} {G G':cx}
theorem AL.length: ∀{xs ys:List AV},AL id elems xs ys->xs.length=ys.length
 |_,_,.z=>rfl
 |_,_,.k _ hs=>by simp[hs.length]
 |_,_,.r _=>rfl
 |_,_,.p h h'=>by simp[h.length,h'.length]
theorem AL.get: ∀{xs ys:List AV},AL id elems xs ys-> ∀{i:Nat}{x:AV},xs[i]? =some x-> ∃y,ys[i]? =some y/\Fz id elems x y
 |_,_,.z,i,x,h=>by simp at h
 |_,_,.k h0 hs,i,x,h=>by
  cases i with
  |zero=>simp at h;subst h;exact⟨_,rfl,h0⟩
  |succ i=>exact hs.get (by simpa using h)
 |_,_,.r _,i,x,h=>⟨x,h,.r x⟩
 |_,_,.p (xs:=xs) (ys:=ys) (xs':=xs') (ys':=ys') h1 h2,i,x,h=>by
  have hl:=h1.length;by_cases hi:i<xs.length
  ·rw[nD hi]at h;obtain⟨y,hy,hc⟩:=h1.get h;exact⟨y,by rw[nD (by omega)];exact hy,hc⟩
  ·rw[qb (by omega)]at h;obtain⟨y,hy,hc⟩:=h2.get h;exact⟨y,by rw[qb (by omega),<-hl];exact hy,hc⟩
theorem AL.mem{xs ys:List AV}(h:AL id elems xs ys){x:AV}(hx:x∈xs): ∃y∈ys,Fz id elems x y:=by
 obtain⟨i,hi,rfl⟩:=ry hx;obtain⟨y,hy,hc⟩:=h.get (dR hi);exact⟨y,gT hy,hc⟩
theorem Fz.cells{x y:AV}(h:Fz id elems x y):AL id elems x.cells y.cells:=by
 cases h with
 |r=>exact .r _
 |m hl he=>exact .k (.m hl he) .z
 |o he hc=>exact .k (.o he hc) .z
 |a h=>exact h
 |t h=>exact .k (.t h) .z
 |f h=>exact .k (.f h) .z
theorem Fz.dn{x y:AV}(h:Fz id elems x y):x.dn=y.dn:=by cases h<;>rfl
theorem AL.dB: ∀{xs ys:List AV},AL id elems xs ys->AL id elems (dB xs) (dB ys)
 |_,_,.z=>.z
 |_,_,.k h hs=>by rw[ju,ju];exact .p h.cells hs.dB
 |_,_,.r _=>.r _
 |_,_,.p h h'=>by rw[dN,dN];exact .p h.dB h'.dB
theorem Fz.V(eP:sJ G G')(hm:(∀b9 len v,b9+len<=elems.length->V G (.ms id b9 len) v->V G' (.sl false ((elems.drop b9).take len)) v)/\ ∀e v,elems=[e]->V G (.mp id 0 0) v->V G' (.ip e.cells) v){x y:AV}{v:Value}(hv:V G y v):Fz id elems x y->V G' x v:=by
 induction hv generalizing x with
 |fn f gk vs dJ h0 ih=>
  intro h;cases h with
  |r=>exact(V.fn f gk vs dJ h0).mono eP
  |f hl=>exact .fn f _ vs (by rw[hl.length];exact dJ) λi x y hx hy=>let⟨z,hz,hc⟩:=hl.get hx;ih i z y hz hy hc
 |agg cs vs dJ h0 ih=>
  intro h;cases h with
  |r=>exact(V.agg cs vs dJ h0).mono eP
  |a hl=>exact .agg _ vs (by rw[hl.length];exact dJ) λi x y hx hy=>let⟨z,hz,hc⟩:=hl.get hx;ih i z y hz hy hc
 |eC cs vs dJ h0 ih=>
  intro h;cases h with
  |r=>exact(V.eC cs vs dJ h0).mono eP
  |t hl=>exact .eC _ vs (by rw[hl.length];exact dJ) λi x y hx hy=>let⟨z,hz,hc⟩:=hl.get hx;ih i z y hz hy hc
 |any v=>intro h;cases h;exact .any v
 |bool b=>intro h;cases h;exact .bool b
 |int k n=>intro h;cases h;exact .int k n
 |str s=>intro h;cases h;exact .str s
 |iO=>intro h;cases h;exact .iO
 |nG=>intro h;cases h;exact .nG
 |slnil full cn cap hf hb=>intro h;cases h;exact .slnil full cn cap hf hb
 |sl full elems b off cN cap val ko kc eE jH iw hV ih=>intro h;cases h;exact(V.sl full elems b off cN cap val ko kc eE jH iw hV).mono eP
 |ip cells b off val iw hV ih=>intro h;cases h;exact(V.ip cells b off val iw hV).mono eP
 |mp id el off r h0=>
  intro h;cases h with
  |r=>exact(V.mp id el off r h0).mono eP
  |o he hc=>rw[<-hc];exact hm.2 _ _ he (.mp _ _ _ r h0)
 |lf id r h0=>intro h;cases h;exact(V.lf id r h0).mono eP
 |ms id b9 len cap r addr h0 GR fB ha=>
  intro h;cases h with
  |r=>exact(V.ms id b9 len cap r addr h0 GR fB ha).mono eP
  |m hl he=>rw[<-he];exact hm.1 _ _ _ hl (.ms _ _ _ _ _ _ h0 GR fB ha)
 |ia id b9 cap cn h0=>
  intro h;cases h with
  |r=>exact .ia _ _ _ _ h0
  |m hl he=>rw[<-he];exact hm.1 _ _ _ hl (.ia _ _ _ _ h0)
 |mc id b9 len cap r addr h0 GR fB ha=>intro h;cases h;exact(V.mc id b9 len cap r addr h0 GR fB ha).mono eP
 |nI id b9 cn=>intro h;cases h;exact .nI _ _ _
end
inductive RC (id:Nat) (elems:List AV):gU->gU->Prop
 |r (b:gU):RC id elems b b
 |cells {cN:Nat} {xs ys:List AV} (h:AL id elems xs ys):RC id elems (.cells cN xs) (.cells cN ys)
theorem RC.holds{id:Nat}{elems:List AV}{G G':cx}(eP:sJ G G')(hm:(∀b9 len v,b9+len<=elems.length->V G (.ms id b9 len) v->V G' (.sl false ((elems.drop b9).take len)) v)/\ ∀e v,elems=[e]->V G (.mp id 0 0) v->V G' (.ip e.cells) v)
  {b b':gU} {r:ua} {o:Obj} (h:RC id elems b b') (hh:Holds G r b' o):Holds G' r b o:=by
 cases h with
 |r=>exact hh.mono eP
 |cells hl=>
  cases hh with
  |cells _ _ cs e eG eE h0 ja jH fB hV=>
   refine .cells _ _ cs e eG eE h0 (λx hx=>?_) (λx hx=>?_) (by rw[hl.length];exact fB) λk x hx=>?_
   ·obtain⟨y,hy,hc⟩:=hl.mem hx;rw[hc.cells.length];exact ja y hy
   ·obtain⟨y,hy,hc⟩:=hl.dB.mem hx;rw[hc.dn];exact jH y hy
   ·obtain⟨y,hy,hc⟩:=hl.dB.get hx;obtain⟨v,hv,WT⟩:=hV k y hy;exact⟨v,hv,hc.V eP hm WT⟩
theorem Th{P:Program}{N:Nat}{ρ:Option Nat}{Q:Exit->Env->St->Prop}{bX E2:Env}{s S2:St}{c:Code}{id cN:Nat}{elems:List AV}(hg:bJ s.heap id=some (.cells cN elems))
  (hE: ∀t x,bJ E2 t=some x-> ∃y,bJ bX t=some y/\Fz id elems x y) (hS: ∀i b,bJ S2.heap i=some b->i≠id/\ ∃b',bJ s.heap i=some b'/\RC id elems b b') (hc:S2.cr=s.cr)
  (hd: ∀i,bJ s.heap i=some .gK->bJ S2.heap i=some .gK) (h:mu P N ρ c Q E2 S2):mu P N ρ c Q bX s:=λG w a hn=>by
 obtain⟨G',h1,h2,h3⟩:=kz hn.jd (b9:=0) (len:=0) hg (xC _);have del: ∀{i b},i≠id->bJ s.heap i=some b->bJ (eN s.heap id) i=some b:=λ{i b}eU hb=>by
  rw[fU,dY (λe=>eU e.symm)];exact hb
 have Ti:eQ G' S2 w:=⟨h1.kS,λi b hi=>by
   obtain⟨eU,b',oM,hf⟩:=hS i b hi;rcases h1.heap i b' (del eU oM)with⟨r,o,e1,e2,_⟩|⟨e1,sz,h0,e2⟩
   ·refine .inl ⟨r,o,e1,e2,?_⟩;rcases hn.jd.heap i b' oM with⟨r',o',q1,q2,q3⟩|⟨q1,_,_,q2⟩
    ·rw[h2.le.own _ _ q1]at e1;cases e1;rw[e2]at q2;cases q2;exact hf.holds h2.le h3 q3
    ·rw[h2.stay i (hn.jd.lt _ _ oM) q1]at e1;cases e1
   ·refine .inr ⟨e1,sz,h0,?_⟩;subst e2;cases hf with
    |r=>rfl
    |cells hl=>
     rename_i xs;have:xs=[]:=Gs (by simpa using hl.length);rw[this],
  λi i' b b' r r' g1 g2=>by
   obtain⟨n1,c1,k1,_⟩:=hS i b g1;obtain⟨n2,c2,k2,_⟩:=hS i' b' g2;exact h1.apart i i' c1 c2 r r' (del n1 k1) (del n2 k2),
  λi b r o g1=>by
   obtain⟨n1,c1,k1,_⟩:=hS i b g1;exact h1.clear i c1 r o (del n1 k1),
  λi hi=>h1.cE i (by rw[hc]at hi;exact hi),
  λi b g1=>by
   obtain⟨n1,c1,k1,_⟩:=hS i b g1;rw[hc];exact hn.jd.lt i c1 k1⟩
 have Ms:Ext G s w G' S2 w:=⟨h2.le,rfl,rfl,rfl,eD _,λ_ _ _=>rfl,h2.jJ,h2.jj,λi b g1=>by
   obtain⟨n1,c1,k1,_⟩:=hS i b g1;exact .inl ⟨c1,k1⟩,by rw[hc];exact eD _,hd,h2.stay,h2.drawn⟩
 refine mu.later h hn.jd hn.known Ms ⟨Ti,λt' x hx=>?_,hn.size,hn.mM.ext Ms,hn.known.le h2.le⟩;obtain⟨y,hy,hf⟩:=hE t' x hx;obtain⟨q1,q2⟩:=hn.bX _ _ hy;exact⟨q1,hf.V h2.le h3 q2⟩
end Go.Am
end
section
namespace Go.Am
open Go.RowKit
def jA(o:Option Nat)(n:Nat):Bool:=match o with
 |some k=>Nat.beq k n
 |none=>false
theorem fD{o:Option Nat}{n:Nat}:jA o n=true↔o=some n:=by
 unfold jA;cases o with
 |none=>simp
 |some k=>simp[Nat.beq_eq]
end Go.Am
end
