/- The logic AM, C: regions, functions, drawn regions, ranges over functions. -/
import Derived.Test.YtpbahncblggodaaGreatAmB
import Derived.RangeFuncNested
set_option linter.all false
section
namespace Go.Am
open Go.RowKit
section
variable {P:Program} {N:Nat} {ρ:Option Nat} {Q:Exit->Env->St->Prop} {bI:Env} {s:St} {G:bZ} {a:Act} {w:World}
theorem wB.put{G':bZ}{s':St}{w':World}{x:AV}{v:Value}{d:Option Nat}(h:wB G N ρ bI s a w)(hd:l9 N d=true)(hv:V G' x v)(hs:eA G' s' w')(hx:Ext G s w G' s' w'):
  wB G' N ρ (fp d x bI) s' (a.put d v) w':=by
 refine⟨hs,?_,?_,?_,h.known.le hx.le⟩
 ·intro t y hy
  cases d with
  |none=>exact(h.bI.mono hx.le) t y hy
  |some d=>
   simp only[l9,decide_eq_true_eq]at hd
   have gh:d<a.tmps.size:=by rw[h.size];exact hd
   simp only[Go.Am.fp,eC]at hy
   simp only[Act.put,Array.size_setIfInBounds]
   split at hy
   ·rename_i he;subst he;cases hy
    exact⟨gh,by simp[wz,gh];exact hv⟩
   ·rename_i he
    obtain⟨e1,e2⟩:=(h.bI.mono hx.le) t y hy
    refine⟨e1,?_⟩
    rw[wz,Uc he,<-wz]
    exact e2
 ·cases d<;>simp[Act.put,h.size]
 ·cases d<;>exact h.lQ.ext hx
theorem Aa{op:Op}{f:Operand}{l:List Operand}(h:fS op=some (f,l)): ∃args ts,op=.call ⟨.value f,args,ts⟩/\l=args.toList:=by
 unfold fS at h
 split at h
 ·cases h;exact⟨_,_,rfl,rfl⟩
 ·cases h
theorem uK{o:Oper}{K:AV->St->Prop}{next:Act->World->Prop}{R:Exit->Act->World->Prop}(h:Um P o K bI s)(hn:wB G N ρ bI s a w)(ro:Option Nat)
  (hK: ∀v G' x s' w',V G' x v->eA G' s' w'->Ext G s w G' s' w'->K x s'->next (a.put o.dst v) w'):o.wpIn (uD ro) 0 P a w next R:=by
 refine⟨λ_ _=>trivial,?_⟩
 unfold Um at h
 split at h
 ·rename_i f args hc
  obtain⟨arr,ts,xp,rfl⟩:=Aa hc
  have Bq:o.semAt (uD ro).round a.eval=execOp a.eval o:=Oper.semAt_eq _ _ _ (λc=>by rw[xp];simp)
  rw[Bq]
  split at h
  ·rename_i g fH l hf hl
   obtain⟨he,UF⟩:=h
   have GR:=eB hn.bI hf
   have GS:=sX hn.bI hl
   generalize hq:a.eval f=fv at GR
   cases GR with
   |fn _ _ vs h1 h2=>
    unfold enters at he
    split at he
    case h_2=>cases he
    rename_i fn NX
    simp only[eW,bne_iff_ne,ne_eq]at he
    have KA: ¬fn.body=none:=by cases hb:fn.body<;>simp[hb]at he |-
    have fh:(execOp a.eval o).run P w=.ok (.enter g (arr.map a.eval++vs)) w:=by
     simp[execOp,xp,resolve,Deferred.ofValue,hq,invoke,callFunc,NX,he.1,KA]
    rw[fh,Oper.uponIn_enter]
    refine⟨(λh=>by cases h),?_⟩
    exact(pG (UF G w _ hn.iE (GS.append ⟨h1,h2⟩))).mono λe w' ⟨v,G',x,s',e1,e2,e3,e4,e5⟩=>by subst e1;exact hK v G' x s' w' e2 e3 e4 e5
  ·rename_i id l hf hl
   have GR:=eB hn.bI hf
   have GS:=sX hn.bI hl
   generalize hq:a.eval f=fv at GR
   cases GR with
   |kt _ r ho=>
    obtain⟨fn,tmps,assign,body,y1,y2⟩:=h ro G w r _ hn.iE ho GS
    have fh:(execOp a.eval o).run P w=.ok (.round r.block fn tmps assign body) w:=by
     simp[execOp,xp,resolve,Deferred.ofValue,hq,invoke,y1]
    rw[fh,Oper.uponIn_round]
    refine⟨(λh=>by cases h),?_⟩
    exact y2.mono λe w' ⟨v,G',x,s',e1,e2,e3,e4,e5⟩=>by subst e1;exact hK v G' x s' w' e2 e3 e4 e5
  ·cases h
 ·split at h
  case h_2=>cases h
  rename_i x s' hx
  have Bq:o.semAt (uD ro).round a.eval=execOp a.eval o:=Oper.semAt_eq _ _ _ (λc=>by
   intro e;rw[e]at hx;simp[iL]at hx)
  rw[Bq]
  obtain⟨nx,v,G',w',e1,e2,e3,e4,e5⟩:=uJ hn.iE hn.bI o hx
  rw[e1]
  rcases e2 with rfl|⟨rfl,rfl⟩
  ·rw[Oper.uponIn_value];exact hK v G' x s' w' e3 e4 e5 h
  ·rw[Oper.uponIn_skip];exact hK undef G' x s' w' e3 e4 e5 h
theorem IM{ops:Array Oper}{o:Oper}{A B:Prop}(h:WX ops o bI A B)(hv:iX G bI a.tmps):
  (Region.wanted o (yielded ops a.tmps)=true/\A)\/(Region.wanted o (yielded ops a.tmps)=false/\B):=by
 unfold WX at h
 unfold Region.wanted
 split at h
 ·rename_i hg;exact .inl ⟨by simp[hg],h⟩
 ·rename_i j want hg
  split at h
  case h_2=>cases h
  rename_i d hd
  split at h
  ·rename_i b hb
   obtain⟨e1,e2⟩:=hv d _ hb
   have hy:yielded ops a.tmps j=some b:=by
    unfold yielded
    rw[hd]
    simp only[cH]
    rw[wz,JP e1,Bc]at e2
    rw[JP e1]
    generalize a.tmps[d]=v at e2
    cases e2;rfl
   rw[hg]
   simp only[hy]
   by_cases KB:b=want
   ·exact .inl ⟨by simp[KB],h.1 KB⟩
   ·exact .inr ⟨by simp[KB],h.2 (by cases b<;>cases want<;>simp_all)⟩
  ·rename_i hb
   obtain⟨e1,e2⟩:=hv d _ hb
   have hy:yielded ops a.tmps j=none:=by
    unfold yielded
    rw[hd]
    simp only[cH]
    rw[wz,JP e1,Bc]at e2
    rw[JP e1]
    generalize a.tmps[d]=v at e2
    cases e2;rfl
   rw[hg]
   simp only[hy]
   exact .inr ⟨by simp,h⟩
  ·cases h
def KC(P:Program)(bI:Env)(s:St):ResultVar->Option AV
 |.tmp t=>bH bI t
 |.cell t ty=>match bH bI t with
  |some p=>oX P ty p s
  |none=>none
def vw(P:Program)(bI:Env)(s:St):List ResultVar->Option (List AV)
 | []=>some []
 |r::l=>match KC P bI s r,vw P bI s l with
  |some x,some xs=>some (x::xs)
  |_,_=>none
def lb(P:Program)(rs:Array ResultVar)(bI:Env)(s:St):Option AV:=match vw P bI s rs.toList with
 |some [x]=>some x
 |some l=>some (.dW l)
 |none=>none
def GU(tmps:Array Value)(r:ResultVar):Sem Value:=match r with
 |.tmp t=>pure (tmps.getD t undef)
 |.cell a t=>do loadVar t (<-asAddr (tmps.getD a undef))
theorem GV(hs:eA G s w){w2:World}(hw: ∀a,w2.cell? a=w.cell? a){tmps:Array Value}(he:iX G bI tmps): ∀{l:List ResultVar}{xs:List AV},vw P bI s l=some xs->
  ∃vs:List Value,(l.mapM (GU tmps)).run P w2=.ok vs w2/\VL G xs vs.toArray
 | [],xs,h=>by simp[vw]at h;subst h;exact⟨[],rfl,rfl,by simp⟩
 |r::l,xs,h=>by
  simp only[vw]at h
  split at h
  case h_2=>cases h
  rename_i x ys hx Br
  cases h
  obtain⟨vs,e1,e2⟩:=GV hs hw he Br
  have one: ∃v,(GU tmps r).run P w2=.ok v w2/\V G x v:=by
   cases r with
   |tmp t=>exact⟨_,rfl,(he t x hx).2⟩
   |cell t ty=>
    simp only[KC]at hx
    split at hx
    case h_2=>cases hx
    rename_i p hp
    unfold oX at hx
    split at hx
    case h_2=>cases hx
    rename_i cs s7
    obtain⟨b,o,hpv,ht⟩:=rE hs (he t p hp).2 s7
    have zg:pI G w2 b o cs:=λk x hx=>by rw[hw];exact ht k x hx
    obtain⟨v,r1,r2⟩:=zg.read (P:=P) hx
    exact⟨v,by simp[GU,hpv,asAddr,r1],r2⟩
  obtain⟨v,o1,o2⟩:=one
  refine⟨v::vs,by simp[List.mapM_cons,o1,e1],by simpa using e2.1,λi p q hp hq=>?_⟩
  cases i with
  |zero=>simp at hp hq;subst hp;subst hq;exact o2
  |succ i=>exact e2.2 i p q (by simpa using hp) (by simpa using hq)
theorem Fi(hs:eA G s w){w2:World}(hw: ∀a,w2.cell? a=w.cell? a){tmps:Array Value}(he:iX G bI tmps){fn:Func}{x:AV}(h:lb P fn.results bI s=some x):
  ∃v,(results fn tmps).run P w2=.ok v w2/\V G x v:=by
 unfold lb at h
 have key: ∀xs,vw P bI s fn.results.toList=some xs-> ∃vs:List Value,(results fn tmps).run P w2=.ok (if h:vs.toArray.size=1 then vs.toArray[0]else .tuple vs.toArray) w2/\VL G xs vs.toArray:=by
  intro xs YM
  obtain⟨vs,e1,e2⟩:=GV (P:=P) hs hw he YM
  refine⟨vs,?_,e2⟩
  have hr:results fn tmps=(do let vs<-fn.results.mapM (GU tmps);pure (if h:vs.size=1 then vs[0]else .tuple vs)):=by
   unfold results
   congr 1
  rw[hr,Sem.run_bind,Array.mapM_eq_mapM_toList,Sem.run_map,e1]
  try rfl
 split at h
 ·rename_i y hy
  cases h
  obtain⟨vs,e1,e2⟩:=key _ hy
  have hl:vs.length=1:=by simpa using e2.1.symm
  match vs,hl with
  | [v],_=>exact⟨v,by simpa using e1,e2.2 0 x v rfl rfl⟩
 ·rename_i l hl eJ
  cases h
  obtain⟨vs,e1,e2⟩:=key _ eJ
  have dt: ¬vs.toArray.size=1:=λhh=>by
   rw[<-e2.1]at hh
   match l,hh with
   | [y],_=>exact hl y rfl
  rw[dif_neg dt]at e1
  exact⟨_,e1,.dW _ _ e2.1 e2.2⟩
 ·cases h
def Fj(s' s:St):Prop:=(∀id b,bH s'.heap id=some b->bH s.heap id=some b/\b≠ .gb)/\s.bS<=s'.bS
def IP(P:Program)(rs:Array ResultVar)(K:AV->St->Prop):Exit->Env->St->Prop
 |.normal,bI,s|.ret,bI,s=> ∃x s',lb P rs bI s=some x/\Fj s' s/\K x s'
 |_,_,_=>False
def mX(l:List AV):Nat->Env
 |k=>match l with
  | []=>[]
  |x::r=>(k,x)::mX r (k+1)
theorem xt: ∀(l:List AV)(k t:Nat)(x:AV),bH (mX l k) t=some x->k<=t/\l[t-k]? =some x
 | [],k,t,x,h=>by simp[mX,cR,cG]at h
 |y::r,k,t,x,h=>by
  simp only[mX,cR,cG]at h
  split at h
  ·rename_i he;subst he;cases h;simp
  ·obtain⟨h1,h2⟩:=xt r (k+1) t x h
   refine⟨by omega,?_⟩
   rw[show t-k=(t-(k+1))+1 from by omega]
   simpa using h2
structure KD (G:bZ) (s:St) (w w':World):Prop where
 size:w'.heap.size=w.heap.size
 os:w'.os=w.os
 tape:w'.tape=w.tape
 output:w'.output=w.output
 drawn:w'.drawn=w.drawn
 heap: ∀b:Nat,w'.heap[b]? =w.heap[b]?\/((∃x,w.heap[b]? =some (.deferred x))/\(∃y,w'.heap[b]? =some (.deferred y))/\ ∃id r,bH s.heap id=some .gb/\G.own id=some r/\r.block=b)
theorem KD.refl(G:bZ)(s:St)(w:World):KD G s w w:=⟨rfl,rfl,rfl,rfl,rfl,λ_=>.inl rfl⟩
theorem KD.cell{w':World}(h:KD G s w w')(x:Addr):w'.cell? x=w.cell? x:=by
 rcases h.heap x.block with e|⟨⟨y,e1⟩,⟨z,e2⟩,_⟩
 ·exact World.cell?_of_block (w:=w) e
 ·simp[World.cell?,e1,e2]
theorem ta{F:Fence}{fn:Func}{tmps:Array Value}{R:Ending->World->Prop}: ∀(ds:List Deferred)(s:St)(w:World),eA G s w->om G s ds->
  (∀w',KD G s w w'-> ∃v,(results fn tmps).run P w'=.ok v w'/\R (.returned v) w')->LeavesInM F 0 P fn tmps R ds .returning w
 | [],s,w,hs,_,h=>by
  obtain⟨v,h1,h2⟩:=h w (.refl _ _ _)
  exact⟨v,h1,h2⟩
 |d::ds,s,w,hs,⟨⟨id,r,hg,ho,ht,eJ⟩,hr⟩,h=>by
  obtain⟨o,e2,e3⟩:=hs.at hg ho
  cases e3
  refine⟨by simp,.inl ⟨r.block,{w with heap:=w.heap.setIfInBounds r.block (.deferred none)},ht,?_,?_⟩⟩
  ·simp[Instr.takeDeferred,getObj,setObj,Sem.run,e2]
  ·have gh:r.block<w.heap.size:=(PH.1 e2).1
   have gd: ∀i b,bH (eh s.heap id) i=some b->i≠id/\bH s.heap i=some b:=λi b hi=>by
    rw[fw]at hi
    split at hi
    ·cases hi
    ·exact⟨by omega,hi⟩
   have hk: ∀b,b≠r.block->(w.heap.setIfInBounds r.block (.deferred none))[b]? =w.heap[b]?:=λb hb=>Uc (λe=>hb e.symm)
   refine ta ds ⟨eh s.heap id,s.bS⟩ _ ?_ ?_ ?_
   ·refine⟨λb o v hi=>?_,λi b hi=>?_,λi i' b b' r1 r2 h1 h2=>hs.apart i i' b b' r1 r2 (gd _ _ h1).2 (gd _ _ h2).2,λi b r1 o hi Ix=>hs.clear i b r1 o (gd _ _ hi).2 Ix,hs.cq,λi b hi=>hs.lt i b (gd _ _ hi).2⟩
    ·have hb:b≠r.block:=λe=>by subst e;rw[hs.clear id _ r o hg ho]at hi;cases hi
     have:=hs.gD b o v hi
     rwa[World.cell?_of_block (w:=w) (hk b hb)]
    ·obtain⟨mE,j0⟩:=gd i b hi
     rcases hs.heap i b j0 with⟨r1,o1,q1,q2,q3⟩|e
     ·exact .inl ⟨r1,o1,q1,by rw[hk _ (hs.apart i id b _ r1 r j0 hg q1 ho mE)];exact q2,q3⟩
     ·exact .inr e
   ·have aux: ∀(l:List Deferred),(∀d'∈l,∀b,d'.target=.collected b->b≠r.block)->om G s l->om G ⟨eh s.heap id,s.bS⟩ l:=by
     intro l
     induction l with
     |nil=>intro _ _;trivial
     |cons d' l ih=>
      intro iA ⟨⟨i,r1,a1,a2,a3,a4⟩,vx⟩
      refine⟨⟨i,r1,?_,a2,a3,a4⟩,ih (λd'' hd=>iA d'' (by simp[hd])) vx⟩
      have hb:=iA d' (by simp) r1.block a3
      show bH (eh s.heap id) i=some .gb
      rw[fw,if_neg (λe=>by subst e;rw[ho]at a2;cases a2;exact hb rfl)]
      exact a1
    exact aux ds eJ hr
   ·intro w' zh
    refine h w' ⟨by rw[zh.size];simp,zh.os,zh.tape,zh.output,zh.drawn,λb=>?_⟩
    by_cases hb:b=r.block
    ·subst hb
     refine .inr ⟨⟨_,e2⟩,?_,id,r,hg,ho,rfl⟩
     rcases zh.heap r.block with e|⟨_,e,_⟩
     ·exact⟨none,by rw[e];simp[gh]⟩
     ·exact e
    ·rcases zh.heap b with e|⟨⟨x,q1⟩,q2,i,r1,q3,q4,q5⟩
     ·exact .inl (e.trans (hk b hb))
     ·exact .inr ⟨⟨x,by rw[<-hk b hb];exact q1⟩,q2,i,r1,(gd i _ q3).2,q4,q5⟩
theorem Bs{f:FuncId}{fn:Func}{c:Code}{args:List AV}{K:AV->St->Prop}(hf:P.funcs[f]? =some fn)(hb:fn.body=some c)(hn:args.length<=fn.ntmps)
  (YN: ∀id,bH s.heap id≠some .gb) (h:lA P fn.ntmps none c (IP P fn.results K) (mX args 0) s):dJ P f args s K:=λG w vs hs hv=>by
 refine callsIn_wide (n:=0) |>.1 ?_
 refine callsIn_of_wp_marks hf hb trivial ?_
 have IQ:wB G fn.ntmps none (mX args 0) s {tmps:=vs++Array.replicate (fn.ntmps-vs.size) undef,defers:=[]} w:=by
  refine⟨hs,λt x hx=>?_,?_,trivial,λid e=>by cases e⟩
  ·obtain⟨_,h2⟩:=xt args 0 t x hx
   simp only[Nat.sub_zero]at h2
   obtain⟨v,e1,e2⟩:=hv.get h2
   have gh:t<vs.size:=(PH.1 e1).1
   refine⟨by simp;omega,?_⟩
   rw[wz,WI gh,e1]
   exact e2
  ·have:=hv.1
   simp;omega
 have:=h G w _ IQ
 refine wpIn_mono this ?_
 rintro e a' w' ⟨G',env',s',n',x',q'⟩
 have fin:(∃x s2,lb P fn.results env' s'=some x/\Fj s2 s'/\K x s2)->LeavesInM Fence.wide 0 P fn a'.tmps (vX G s w K) a'.defers .returning w':=by
  rintro⟨x,s2,hx,hl,hk⟩
  refine ta a'.defers s' w' n'.iE n'.lQ λw2 zh=>?_
  obtain⟨v,It,hV2⟩:=Fi (P:=P) n'.iE zh.cell n'.bI hx
  have nu:=n'.iE
  refine⟨v,It,v,G',x,s2,rfl,hV2,⟨?_,?_,?_,?_,?_,?_⟩,⟨x'.le,zh.os.trans x'.os,zh.tape.trans x'.tape,zh.output.trans x'.output,by rw[zh.size];exact x'.size,?_,x'.jh,x'.iK,?_,vS x'.bS hl.2,?_,x'.stay,by rw[zh.drawn];exact x'.drawn⟩,hk⟩
  ·intro b o u hi;rw[zh.cell];exact nu.gD b o u hi
  ·intro id b hg
   obtain⟨j0,eJ⟩:=hl.1 id b hg
   rcases nu.heap id b j0 with⟨r,o,e1,e2,e3⟩|e
   case inr=>exact .inr e
   refine .inl ⟨r,o,e1,?_,e3⟩
   rcases zh.heap r.block with e|⟨⟨y,q1⟩,_,_⟩
   ·rw[e];exact e2
   ·rw[e2]at q1;cases q1
    cases e3
    exact absurd rfl eJ
  ·intro id fq b b' r r' h1 h2;exact nu.apart id fq b b' r r' (hl.1 _ _ h1).1 (hl.1 _ _ h2).1
  ·intro id b r o hg;exact nu.clear id b r o (hl.1 _ _ hg).1
  ·intro id jC;exact nu.cq id (vS hl.2 jC)
  ·intro id b hg;exact QN (nu.lt id b (hl.1 id b hg).1) hl.2
  ·intro b hb rh
   rcases zh.heap b with e|⟨_,_,id,r,q1,q2,q3⟩
   ·rw[e];exact x'.keep b hb rh
   ·exfalso
    rcases x'.iK id r q2 with h|h|h
    ·rcases x'.ids id _ q1 with⟨b0,CU⟩|JS
     ·exact rh ⟨id,b0,r,CU,h,q3⟩
     ·rw[hs.cq id JS]at h;cases h
    ·omega
    ·rw[q3]at h;exact rh h
  ·intro id b hg;exact x'.ids id b (hl.1 _ _ hg).1
  ·intro id jC;exact absurd jC (YN id)
 cases e with
 |normal=>exact fin q'
 |ret=>exact fin q'
 |exit id=>exact q'.elim
 |goto l=>exact q'.elim
 |panic ch=>exact q'.elim
 |outgrown=>exact q'.elim
end
end Go.Am
end
section
namespace Go.Am
open Go.RowKit
mutual
def AV.dv:AV->Bool
 |.mp _ _ _=>false
 |.ms _ _ _=>false
 |.mc _ _ _ _=>false
 |.kt _=>false
 |.sl _ l=>eG l
 |.agg l=>eG l
 |.dW l=>eG l
 |.fn _ l=>eG l
 |.ip l=>eG l
 |_=>true
def eG:List AV->Bool
 | []=>true
 |x::r=>x.dv&&eG r
end
theorem dY{l:List AV}:eG l=true↔ ∀x∈l,x.dv=true:=by
 induction l with
 |nil=>simp[eG]
 |cons x r ih=>simp[eG,ih]
theorem lf{x:AV}(h:x.dv=true): ∀y∈x.cells,y.dv=true:=by
 intro y hy
 cases x<;>simp only[AV.cells,QL]at hy<;>first
  |(subst hy;exact h)
  |(simp only[AV.dv]at h;exact dY.1 h y hy)
theorem V.dv{G G':bZ}(hi: ∀b o v,G.gD b o=some v->G'.gD b o=some v){x:AV}{v:Value}(h:V G x v):x.dv=true->V G' x v:=by
 induction h with
 |any v=>exactλ_=>.any v
 |bool b=>exactλ_=>.bool b
 |int k n=>exactλ_=>.int k n
 |str s=>exactλ_=>.str s
 |ij=>exactλ_=>.ij
 |mD=>exactλ_=>.mD
 |slnil full bQ cap hf hb=>exactλ_=>.slnil full bQ cap hf hb
 |sl full elems b off cz cap val jG jB dS jg gF _ ih=>
  intro hc
  refine .sl full elems b off cz cap val jG jB dS jg (λk hk=>hi _ _ _ (gF k hk)) λk x hx=>ih k x hx ?_
  have hm:=gx hx
  rw[di,sL]at hm
  obtain⟨y,hy,pp⟩:=hm
  simp only[AV.dv]at hc
  exact lf (dY.1 hc y hy) x pp
 |ip cells b off val gF _ ih=>
  intro hc
  simp only[AV.dv]at hc
  exact .ip cells b off val (λk hk=>hi _ _ _ (gF k hk)) λk x hx=>ih k x hx (dY.1 hc x (gx hx))
 |mp id el off r h=>intro hc;cases hc
 |ms id bL len cap r addr h ep eP ha=>intro hc;cases hc
 |gn id bL cap bQ h=>intro hc;cases hc
 |mc id bL len cap r addr h ep eP ha=>intro hc;cases hc
 |mH id bL bQ=>intro hc;cases hc
 |fn f fH vs dt _ ih=>
  intro hc
  simp only[AV.dv]at hc
  exact .fn f fH vs dt λi x y hx hy=>ih i x y hx hy (dY.1 hc x (gx hx))
 |kt id r h=>intro hc;cases hc
 |agg cs vs dt _ ih=>
  intro hc
  simp only[AV.dv]at hc
  exact .agg cs vs dt λi x y hx hy=>ih i x y hx hy (dY.1 hc x (gx hx))
 |dW cs vs dt _ ih=>
  intro hc
  simp only[AV.dv]at hc
  exact .dW cs vs dt λi x y hx hy=>ih i x y hx hy (dY.1 hc x (gx hx))
section
variable {P:Program} {G:bZ} {s:St} {w:World}
def St.nil:St:=⟨[],0⟩
def nz(P:Program)(f:FuncId)(args:List AV)(x:AV):Prop:= ∀s,dJ P f args s λy s'=>y=x/\s'=s
theorem UG{f:FuncId}{args:List AV}{x:AV}(ha:eG args=true)(hx:x.dv=true)(h:dJ P f args St.nil λy _=>y=x):nz P f args x:=λs G w vs hs hv=>by
 let G0:bZ:={gD:=G.gD,own:=λ_=>none}
 have PO:eA G0 St.nil w:=⟨hs.gD,λid b hg=>by simp[St.nil,cR,cG]at hg,λid _ b _ _ _ hg=>by simp[St.nil,cR,cG]at hg,λid b _ _ hg=>by simp[St.nil,cR,cG]at hg,λ_ _=>rfl,λid b hg=>by simp[St.nil,cR,cG]at hg⟩
 have hv0:VL G0 args vs:=⟨hv.1,λi p q hp hq=>V.dv (G:=G) (G':=G0) (λb o u(h:G.gD b o=some u)=>(h:G0.gD b o=some u)) (hv.2 i p q hp hq) (dY.1 ha p (gx hp))⟩
 refine(h G0 w vs PO hv0).mono ?_
 rintro e w' ⟨v,G',y,s',rfl,hV,hS,hE,rfl⟩
 let G1:bZ:={gD:=G'.gD,own:=G.own}
 have ep:rC G G1:=⟨λb o v hi=>hE.le.gD b o v hi,λ_ _ h=>h⟩
 have WZ: ∀b,¬lI G0 St.nil b:=λb ⟨id,blk,r,hg,_⟩=>by simp[St.nil,cR,cG]at hg
 refine⟨v,G1,y,s,rfl,V.dv (G:=G') (G':=G1) (λb o u(h:G'.gD b o=some u)=>(h:G1.gD b o=some u)) hV hx,⟨hS.gD,λid b hg=>?_,hs.apart,λid b r o hg ho=>?_,hs.cq,hs.lt⟩,
  ⟨ep,hE.os,hE.tape,hE.output,hE.size,λb hb _=>hE.keep b hb (WZ b),λb o v hi=>?_,λ_ _ h=>.inl h,λid b hg=>.inl ⟨b,hg⟩,eu _,λ_ h=>h,λ_ _ h=>h,hE.drawn⟩,rfl,rfl⟩
 ·rcases hs.heap id b hg with⟨r,o,e1,e2,e3⟩|e
  ·exact .inl ⟨r,o,e1,by rw[hE.keep _ (hs.iY hg e1) (WZ _)];exact e2,e3.mono ep⟩
  ·exact .inr e
 ·cases hi:G1.gD r.block o with
  |none=>rfl
  |some u=>
   rcases hE.jh _ _ _ hi with h|h|h
   ·rw[show G.gD r.block o=none from hs.clear id b r o hg ho]at h;cases h
   ·have:=hs.iY hg ho;omega
   ·exact absurd h (WZ _)
 ·rcases hE.jh _ _ _ hi with h|h|h
  ·exact .inl h
  ·exact .inr (.inl h)
  ·exact absurd h (WZ _)
def ri(s:St)(x:AV)(s':St)(x':AV):Prop:= ∀G w v,eA G s w->V G x v-> ∃G',eA G' s' w/\Ext G s w G' s' w/\V G' x' v
theorem dJ.turn{f:FuncId}{args:List AV}{Q:AV->St->Prop}(h:dJ P f args s λx s'=> ∃s2 x2,ri s' x s2 x2/\Q x2 s2):dJ P f args s Q:=λG w vs hs hv=>by
 refine(h G w vs hs hv).mono ?_
 rintro e w' ⟨v,G',x,s',rfl,hV,hS,hE,s2,x2,ht,hq⟩
 obtain⟨G2,h1,h2,h3⟩:=ht G' w' v hS hV
 exact⟨v,G2,x2,s2,rfl,h3,h1,hE.trans hs h2,hq⟩
theorem ri.refl(s:St)(x:AV):ri s x s x:=λG w v hs hv=>⟨G,hs,.refl _ _ _,hv⟩
theorem jQ(hs:eA G s w){id bL len cz:Nat}{elems:List AV}(hg:bH s.heap id=some (.cells cz elems))(hl:bL+len<=elems.length):
  ∃G',eA G' ⟨eh s.heap id,s.bS⟩ w/\Ext G s w G' ⟨eh s.heap id,s.bS⟩ w/\(∀bL len v,bL+len<=elems.length->V G (.ms id bL len) v->V G' (.sl false ((elems.drop bL).take len)) v)/\ ∀e v,elems=[e]->V G (.mp id 0 0) v->V G' (.ip e.cells) v:=by
 rcases hs.heap id _ hg with⟨r,o,e1,e2,e3⟩|⟨e1,sz,_,e2⟩
 case inr=>
  cases e2
  have hd: ∀i b,bH (eh s.heap id) i=some b->bH s.heap i=some b:=λi b hi=>by
   rw[fw]at hi
   split at hi
   ·cases hi
   ·exact hi
  refine⟨G,hs.drop hd (eu _),Ext.drop hd (eu _) λi hi=>?_,λbL len v hl hv=>?_,λe v he _=>by cases he⟩
  ·rw[fw,if_neg (λe=>by subst e;rw[hg]at hi;cases hi)];exact hi
  ·cases hv with
   |ms _ _ _ cap r' addr ho ep N6 gm=>rw[e1]at ho;cases ho
   |gn _ _ cap bQ hc=>
    simp only[QR]
    exact .slnil _ _ _ (λe=>by cases e) (λ_=>hc)
 cases e3 with
 |cells _ _ cs ty s7 dS h0 iz jg eP hV=>
  subst dS
  obtain⟨q1,q2⟩:=hs.freeze hg e1 e2
  refine⟨_,q1,q2,λbL len v hl hv=>?_,λe v he hv=>?_⟩
  case refine_2=>
   subst he
   cases hv with
   |mp _ _ _ r' ho=>
    rw[e1]at ho;cases ho
    have hc:=iz e (by simp)
    have eP:r.bQ+r.cz<=cs.size:=by simpa[s7]using eP
    refine .ip e.cells r.block (r.bQ+0*r.cz+0) (λk=>cs.getD (r.bQ+k) undef) (λk hk=>?_) λk x hx=>?_
    ·have gh:r.bQ+k<cs.size:=by omega
     simp[bZ.gG,gh]
    ·obtain⟨u,p1,p2⟩:=hV k x (by simpa[di]using hx)
     rw[wz,p1]
     exact p2.mono q2.le
  cases hv with
  |gn _ _ cap bQ hc=>
   simp only[QR]
   exact .slnil _ _ _ (λe=>by cases e) (λ_=>hc)
  |ms _ _ _ cap r' addr ho ep N6 gm=>
   rw[e1]at ho;cases ho
   have dt:((elems.drop bL).take len).length=len:=by simp;omega
   have jZ: ∀y∈(elems.drop bL).take len,y∈elems:=λy hy=>GF (w8 hy)
   by_cases hn:len=0
   ·subst hn
    simp only[QR]
    exact .slnil _ _ _ (λe=>by cases e) (λe=>by cases e)
   ·rw[gm (by omega)]
    have key:=V.sl (G:=G.gG r.block cs) false ((elems.drop bL).take len) r.block (r.bQ+bL*r.cz) r.cz cap (λk=>cs.getD (r.bQ+bL*r.cz+k) undef) (by omega) (by simp)
     (λy hy=>iz y (jZ y hy)) (λy hy=>jg y (by
      rw[di,sL]at hy |-
      obtain⟨z,hz,hy⟩:=hy
      exact⟨z,jZ z hz,hy⟩)) (λk hk=>by
      rw[dt]at hk
      have h1:(bL+len)*r.cz<=elems.length*r.cz:=zp _ hl
      rw[uw]at h1
      have gh:r.bQ+bL*r.cz+k<cs.size:=by omega
      simp[bZ.gG,gh]) (λk y hy=>by
      have hk:=gJ (n:=bL+len) (l:=bL) iz h0 (k:=k) (x:=y) (by
       rw[show(elems.take (bL+len)).drop bL=(elems.drop bL).take len from by rw[List.drop_take];congr 1;omega]
       exact hy)
      obtain⟨u,p1,p2⟩:=hV _ y hk
      rw[wz,CC,p1]
      exact p2.mono q2.le)
    rw[dt]at key
    exact key
def uL:AV->St->AV×St
 |.ms id bL len,s=>match bH s.heap id with
  |some (.cells _ elems)=>if bL+len<=elems.length then(.sl false ((elems.drop bL).take len),⟨eh s.heap id,s.bS⟩)else(.ms id bL len,s)
  |_=>(.ms id bL len,s)
 |x,s=>(x,s)
def mF(f:AV->St->AV×St):List AV->St->List AV×St
 | [],s=>([],s)
 |x::r,s=>((f x s).1::(mF f r (f x s).2).1,(mF f r (f x s).2).2)
def tc:AV->St->AV×St
 |.agg l,s=>(.agg (mF uL l s).1,(mF uL l s).2)
 |x,s=>uL x s
def Ob:AV->St->AV×St
 |.dW l,s=>(.dW (mF tc l s).1,(mF tc l s).2)
 |x,s=>tc x s
theorem Ab(s:St)(x:AV):ri s x (uL x s).2 (uL x s).1:=by
 unfold uL
 split
 ·rename_i id bL len
  split
  ·rename_i cz elems hg
   split
   ·rename_i hl
    intro G w v hs hv
    obtain⟨G',h1,h2,h3,_⟩:=jQ hs hg hl
    exact⟨G',h1,h2,h3 _ _ v hl hv⟩
   ·exact .refl _ _
  ·exact .refl _ _
 ·exact .refl _ _
theorem uM{f:AV->St->AV×St}(hf: ∀s x,ri s x (f x s).2 (f x s).1): ∀(l:List AV)(s:St)(G:bZ)(w:World)(vs:List Value),eA G s w->l.length=vs.length->
  (∀(i:Nat)x y,l[i]? =some x->vs[i]? =some y->V G x y)-> ∃G',eA G' (mF f l s).2 w/\Ext G s w G' (mF f l s).2 w/\(mF f l s).1.length=vs.length/\
   ∀(i:Nat)x y,(mF f l s).1[i]? =some x->vs[i]? =some y->V G' x y
 | [],s,G,w,vs,hs,hl,hV=>⟨G,hs,.refl _ _ _,hl,by simp[mF]⟩
 |x::r,s,G,w,vs,hs,hl,hV=>by
  cases vs with
  |nil=>simp at hl
  |cons v vs=>
   obtain⟨G1,a1,a2,a3⟩:=hf s x G w v hs (hV 0 x v rfl rfl)
   obtain⟨G2,b1,b2,b3,b4⟩:=uM hf r _ G1 w vs a1 (by simpa using hl) λi p q hp hq=>(hV (i+1) p q (by simpa using hp) (by simpa using hq)).mono a2.le
   refine⟨G2,b1,a2.trans hs b2,by simpa[mF]using b3,λi p q hp hq=>?_⟩
   cases i with
   |zero=>simp[mF]at hp hq;subst hp;subst hq;exact a3.mono b2.le
   |succ i=>exact b4 i p q (by simpa[mF]using hp) (by simpa using hq)
theorem Ac(s:St)(x:AV):ri s x (tc x s).2 (tc x s).1:=by
 unfold tc
 split
 ·rename_i l
  intro G w v hs hv
  cases hv with
  |agg _ vs dt hh=>
   obtain⟨G',a,b,c,d⟩:=uM Ab l s G w vs.toList hs (by simpa using dt) λi p q hp hq=>hh i p q hp (by simpa using hq)
   exact⟨G',a,b,.agg _ vs (by simpa using c) λi p q hp hq=>d i p q hp (by simpa using hq)⟩
 ·exact Ab s _
theorem C3(s:St)(x:AV):ri s x (Ob x s).2 (Ob x s).1:=by
 unfold Ob
 split
 ·rename_i l
  intro G w v hs hv
  cases hv with
  |dW _ vs dt hh=>
   obtain⟨G',a,b,c,d⟩:=uM Ac l s G w vs.toList hs (by simpa using dt) λi p q hp hq=>hh i p q hp (by simpa using hq)
   exact⟨G',a,b,.dW _ vs (by simpa using c) λi p q hp hq=>d i p q hp (by simpa using hq)⟩
 ·exact Ac s _
end
end Go.Am
end
section
namespace Go.Am
open Go.RowKit
structure Ins where
 dst:Option Nat
 op:Op
 guard:Option (Nat×Bool)
def lJ(ops:List Oper)(o:Oper):Ins:=⟨o.dst,o.op,match o.guard with
 |none=>none
 |some (j,want)=>match(ops[j]?).bind (·.dst)with
  |some d=>some (d,want)
  |none=>some (0,want)⟩
def ins(ops:List Oper):List Ins:=ops.map (lJ ops)
def nA(ops:List Oper):Bool:=ops.all λo=>match o.guard with
 |none=>true
 |some (j,_)=>((ops[j]?).bind (·.dst)).isSome
def pN(N:Nat)(ops:List Oper):Bool:=ops.all λo=>l9 N o.dst
def EP(g:Option (Nat×Bool))(bI:Env)(A B:Prop):Prop:=match g with
 |none=>A
 |some (d,want)=>match bH bI d with
  |some (.bool b)=>(b=want->A)/\(b=!want->B)
  |some (.dW [])=>B
  |_=>False
def ows(P:Program)(op:Op)(K:AV->St->Prop)(bI:Env)(s:St):Prop:=
 match fS op with
 |some (f,args)=>match oper bI f,opers bI args with
  |some (.fn g fH),some l=>enters P g=true/\dJ P g (l++fH) s K
  |some (.kt id),some l=>iM P id l s K
  |_,_=>False
 |none=>match iL P op bI s with
  |some (v,s')=>K v s'
  |none=>False
section
variable {P:Program} {N:Nat} {ρ:Option Nat} {Q:Exit->Env->St->Prop} {bI:Env} {s:St}
def zx:List Nat->List AV->Env
 |k::r,x::l=>(k,x)::zx r l
 |_,_=>[]
structure YO (s' s:St):Prop where
 heap: ∀id b,bH s'.heap id=some b->bH s.heap id=some b
 bS:s.bS<=s'.bS
 gb: ∀id,bH s.heap id=some .gb->bH s'.heap id=some .gb
theorem YO.refl(s:St):YO s s:=⟨λ_ _ h=>h,eu _,λ_ h=>h⟩
end
end Go.Am
end
section
namespace Go.Am
open Go.RowKit
inductive Step where
 |ig (i:Nat) (note:Bool)
 |gW (i:Nat) (wb:List Nat)
 |alloc (i:Nat)
 deriving DecidableEq
def Step.idx:Step->Nat
 |.ig i _=>i
 |.gW i _=>i
 |.alloc i=>i
def Step.waits:Step->Bool
 |.ig _ _=>false
 |_=>true
def Step.GW:Step->Bool
 |.alloc _=>true
 |_=>false
def fN:Op->Bool
 |.move _|.assign _|.pick _ _ _|.build _ _|.buildSlice _ _ _|.load _ _|.nilCheck _|.binOp _ _ _ _ _|.unOp _ _ _|.convert _ _ _|.makeFunc _ _ _|.slice _ _ _ _ _
 |.fieldAddr _ _ _|.field _ _ _|.indexAddr _ _ _|.index _ _ _|.extract _ _=>true
 |.call ⟨.builtin .len,_,_⟩|.call ⟨.builtin .min,_,_⟩|.call ⟨.builtin .max,_,_⟩=>true
 |_=>false
def jR:Op->Bool
 |.move _|.assign _|.pick _ _ _|.build _ _|.buildSlice _ _ _|.nilCheck _|.binOp _ _ _ _ _|.unOp _ _ _|.convert _ _ _|.makeFunc _ _ _
 |.fieldAddr _ _ _|.field _ _ _|.index _ _ _|.extract _ _=>true
 |.call ⟨.builtin .len,_,_⟩|.call ⟨.builtin .min,_,_⟩|.call ⟨.builtin .max,_,_⟩=>true
 |_=>false
theorem oA{P:Program}{op:Op}{bI:Env}{s s':St}{x:AV}(hl:fN op=true)(h:iL P op bI s=some (x,s')):s'=s:=by
 cases op<;>simp only[fN]at hl<;>first|(cases hl;done)|skip
 case call c=>
  obtain⟨callee,args,ts⟩:=c
  cases callee with
  |value f=>cases hl
  |invoke r m=>cases hl
  |builtin b=>
   cases b<;>simp only[]at hl<;>first|(cases hl;done)|skip
   all_goals
    simp only[iL]at h
    split at h<;>first|exact(dF h).2|cases h
 case makeFunc fn first fH=>
  cases fn<;>simp only[iL]at h<;>first|(cases h;done)|skip
  split at h
  ·split at h
   ·cases h;rfl
   ·cases h
  ·cases h
 all_goals
  simp only[iL]at h
  first
   |exact(dF h).2
   |(repeat' split at h)<;>first|exact(dF h).2|(cases h;done)|(cases h;rfl)
theorem mi{P:Program}{op:Op}{bI:Env}{s s2:St}{x:AV}(hl:jR op=true)(h:iL P op bI s=some (x,s)):iL P op bI s2=some (x,s2):=by
 have k: ∀{v:Option AV},gg v s=some (x,s)->gg v s2=some (x,s2):=λh=>by rw[(dF h).1];rfl
 cases op<;>simp only[jR]at hl<;>first|(cases hl;done)|skip
 case call c=>
  obtain⟨callee,args,ts⟩:=c
  cases callee with
  |value f=>cases hl
  |invoke r m=>cases hl
  |builtin b=>
   cases b<;>simp only[]at hl<;>first|(cases hl;done)|skip
   all_goals
    simp only[iL]at h |-
    split at h<;>first|exact k h|cases h
 case makeFunc fn first fH=>
  cases fn<;>simp only[iL]at h |- <;>first|(cases h;done)|skip
  split at h
  ·rename_i h0
   rw[if_pos h0]
   split at h
   ·rename_i l hl
    cases h;simp only[hl]
   ·cases h
  ·cases h
 case pick c a b=>
  simp only[iL]at h |-
  split at h
  ·rename_i t ht
   cases t
   ·simp only[X4,if_false]at h |-;exact k h
   ·simp only[if_true]at h |-;exact k h
  ·cases h
 all_goals
  simp only[iL]at h |-
  first
   |exact k h
   |(split at h<;>first|exact k h|(cases h;rfl)|(cases h;done)|(split at h<;>first|exact k h|(cases h;rfl)|(cases h;done)|(split at h<;>first|exact k h|(cases h;rfl)|(cases h;done))))
def PP:Operand->List Nat
 |.tmp t=>[t]
 |_=>[]
def ik(o:Oper):List Nat:=o.op.operands.toList.flatMap PP
def iF(ts:List Nat)(bI:Env):Env:=ts.filterMap λt=>(bH bI t).map λx=>(t,x)
theorem Ad{ts:List Nat}{bI:Env}{t:Nat}{x:AV}(h:bH (iF ts bI) t=some x):t∈ts/\bH bI t=some x:=by
 induction ts with
 |nil=>simp[iF,cR,cG]at h
 |cons k r ih=>
  simp only[iF,List.filterMap_cons]at h
  cases hk:bH bI k with
  |none=>
   simp only[hk,QP]at h
   obtain⟨a,b⟩:=ih h
   exact⟨by simp[a],b⟩
  |some y=>
   simp only[hk,gl,cR,cG]at h
   split at h
   ·rename_i e;subst e;cases h;exact⟨by simp,hk⟩
   ·obtain⟨a,b⟩:=ih h
    exact⟨by simp[a],b⟩
def vy(l:List Oper)(o:Oper):List Nat:=match o.guard with
 |none=>[]
 |some (j,_)=>match(l[j]?).bind (·.dst)with
  |some d=>[d]
  |none=>[]
def pO:List (Nat×Env×AV)->Nat->Option (Env×AV)
 | [],_=>none
 |(k,e,v)::r,i=>if k=i then some (e,v)else pO r i
def rW(P:Program)(l:List Oper)(tr:List (Nat×Env×AV))(s:St):List Nat->Prop
 | []=>True
 |j::r=>(match pO tr j,l[j]? with
  |some (e,v),some o=>iL P o.op e s=some (v,s)
  |_,_=>True)/\rW P l tr s r
theorem xu{P:Program}{l:List Oper}{tr:List (Nat×Env×AV)}{s:St}{e:Env}{v:AV}{o:Oper}: ∀{c:List Nat},rW P l tr s c-> ∀j∈c,pO tr j=some (e,v)->l[j]? =some o->iL P o.op e s=some (v,s)
 | [],_,j,hj,_,_=>by cases hj
 |k::r,⟨h1,h2⟩,j,hj,hf,hl=>by
  rcases mB.1 hj with rfl|hj
  ·simp only[hf,hl]at h1;exact h1
  ·exact xu h2 j hj hf hl
def W0(l:List Oper)(o:Oper)(bI:Env)(A:Prop)(B:Prop):Prop:=EP (lJ l o).guard bI A B
def zi(P:Program)(l:List Oper)(K:Env->St->Prop):List Step->List (Nat×Env×AV)->Env->St->Prop
 | [],_,bI,s=>K bI s
 |.ig i note::r,tr,bI,s=>match l[i]? with
  |some o=>W0 l o bI (match iL P o.op (iF (ik o) bI) s with
    |some (v,_)=>zi P l K r (if note then(i,iF (ik o) bI,v)::tr else tr) (fp o.dst v bI) s
    |none=>False) (zi P l K r tr (fp o.dst (.dW []) bI) s)
  |none=>False
 |.gW i wb::r,tr,bI,s=>match l[i]? with
  |some o=>W0 l o bI (ows P o.op (λv s'=>rW P l tr s' wb/\zi P l K r tr (fp o.dst v bI) s') (iF (ik o) bI) s) (zi P l K r tr (fp o.dst (.dW []) bI) s)
  |none=>False
 |.alloc i::r,tr,bI,s=>match l[i]? with
  |some o=>match iL P o.op [] s with
   |some (v,s')=>zi P l K r tr (fp o.dst v bI) s'
   |none=>False
  |none=>False
def direct(o:Oper):List Nat:=(o.after.toList.filter (Region.binds .any)).map (·.on)
def il(pre:List (List Nat))(i:Nat):List Nat:=pre.getD i []
def im(l:List Oper)(i:Nat):Option Nat:=(l[i]?).bind (·.dst)
structure gy (X:Nat->Nat->Prop) (P:Program) (N:Nat) (l:List Oper) (pre:List (List Nat)) (bN:List Step):Prop where
 KE: ∀i∈List.range l.length,∀o∈l[i]?,(∀p∈direct o,p<i)/\ ∀p∈il pre i,p<i/\(p∈direct o\/ ∃d∈direct o,p∈il pre d)
 UH: ∀i∈List.range l.length,∀j∈List.range l.length,∀t∈im l i,im l j=some t->i=j
 IR:pN N l=true
 YP:nA l=true
 reads: ∀i∈List.range l.length,∀o∈l[i]?,∀t∈ik o++vy l o,(∃u∈il pre i,im l u=some t)\/(∀u∈List.range l.length,im l u=some t->i∈il pre u)
 perm:(∀st∈bN,st.idx<l.length)/\(∀i∈List.range l.length,i∈bN.map Step.idx)/\(bN.map Step.idx).Nodup
 KF: ∀k∈List.range bN.length,∀st∈bN[k]?,∀p∈il pre st.idx,p∈(bN.take k).map Step.idx
 waits: ∀k∈List.range bN.length,∀st∈bN[k]?,st.waits=true-> ∀st2∈bN.drop (k+1),st2.GW=true\/st.idx∈il pre st2.idx\/X st.idx st2.idx
 kinds: ∀st∈bN,∀o∈l[st.idx]?,match st with
  |.ig _ _=>fN o.op=true
  |.gW _ _=>True
  |.alloc _=>(match o.op with|.alloc t=>(vr P t).isSome=true|_=>False)/\o.guard=none/\o.dst.isSome=true
 KG: ∀k∈List.range bN.length,∀st∈bN[k]?,match st with
  |.gW h wb=> ∀st2∈bN.take k,match st2 with
   |.ig j note=> ∀o∈l[j]?,jR o.op=true\/j∈il pre h\/(note=true/\j∈wb)
   |_=>True
  |_=>True
abbrev KI(P:Program)(N:Nat)(l:List Oper)(pre:List (List Nat))(bN:List Step):Prop:=gy (λ_ _=>False) P N l pre bN
end Go.Am
end
section
namespace Go.Am
open Go.RowKit
section
variable {X:Nat->Nat->Prop} {P:Program} {N:Nat} {ρ:Option Nat} {l:List Oper} {pre:List (List Nat)} {bN:List Step} {K:Env->St->Prop} {gS:Env} {G0:bZ} {s0:St} {w0:World}
def jk(ds:List Step):List Nat:=ds.map Step.idx
def Rd(l:List Oper)(pre:List (List Nat))(bI gS:Env)(i t:Nat)(x:AV):Prop:=
 (∃u,u∈il pre i/\im l u=some t/\bH bI t=some x)\/((∀u,u<l.length->im l u=some t->i∈il pre u)/\bH gS t=some x)
def Fk:AV->Bool->Option Bool
 |.bool c,want=>some (c==want)
 |.dW [],_=>some false
 |_,_=>none
def EQ(l:List Oper)(pre:List (List Nat))(bI gS:Env)(i:Nat)(o:Oper)(b:Bool):Prop:=match o.guard with
 |none=>b=true
 |some (j,want)=> ∃d x,im l j=some d/\Rd l pre bI gS i d x/\Fk x want=some b
def UI(P:Program)(l:List Oper)(pre:List (List Nat))(bN:List Step)(bI gS:Env)(tr:List (Nat×Env×AV))(s:St)(i:Nat):Prop:=
 ∃o,l[i]? =some o/\fN o.op=true/\
  ((EQ l pre bI gS i o true/\ ∃e v,(∀t x,bH e t=some x->Rd l pre bI gS i t x)/\iL P o.op e s=some (v,s)/\(∀t,o.dst=some t->bH bI t=some v)/\
    ((∃st∈bN,st=.ig i true)->pO tr i=some (e,v)))\/
   (EQ l pre bI gS i o false/\ ∀t,o.dst=some t->bH bI t=some (.dW [])))
def GX(P:Program)(l:List Oper)(G:bZ)(s:St)(w0 w:World)(tmps:Array Value)(i:Nat):Prop:=
 ∃o t ty z b cs e,l[i]? =some o/\o.op=.alloc ty/\o.dst=some t/\vr P ty=some z/\tmps[t]? =some (.pointer (some ⟨b,0,none⟩))/\w.heap[b]? =some (.cells cs e (0,0))/\
  VL G z.cells cs/\ ¬lI G s b/\(∀j,G.gD b j=none)/\w0.heap.size<=b
structure pq (P:Program) (N:Nat) (ρ:Option Nat) (l:List Oper) (pre:List (List Nat)) (bN:List Step) (K:Env->St->Prop) (gS:Env) (G0:bZ) (s0:St) (w0:World)
  (E:Nat->Prop) (ds σ:List Step) (tr:List (Nat×Env×AV)) (bI:Env) (s:St) (a:Act) (w:World) (G:bZ):Prop where
 split:bN=ds++σ
 run:zi P l K σ tr bI s
 iE:eA G s w
 ext:Ext G0 s0 w0 G s w
 size:a.tmps.size=N
 lQ:om G s a.defers
 known:vu G ρ
 lt: ∀i,E i->i<l.length
 closed: ∀i,E i-> ∀p∈il pre i,E p
 sub: ∀i,E i->i∈jk ds\/(.alloc i∈σ/\GX P l G s w0 w a.tmps i)
 wait: ∀st∈ds,st.waits=true->E st.idx
 s1: ∀t x,bH gS t=some x->(∀i,E i->im l i≠some t)->t<N/\V G x (a.tmps.getD t undef)
 s2: ∀i,E i->i∈jk ds-> ∀t,im l i=some t-> ∀x,bH bI t=some x->V G x (a.tmps.getD t undef)
 e0: ∀t,(∀i∈jk ds,im l i≠some t)->bH bI t=bH gS t
 IU: ∀i∈jk ds,¬E i->UI P l pre bN bI gS tr s i
 C4: ∀i j,E i->E j->.alloc i∈σ->.alloc j∈σ->i≠j-> ∀ti tj,im l i=some ti->im l j=some tj->a.tmps[ti]?≠a.tmps[tj]?
theorem jS{ds σ:List Step}(hp:gy X P N l pre bN)(h:bN=ds++σ){st:Step}(hm:st∈σ):st.idx ∉ jk ds:=by
 have:=hp.perm.2.2
 rw[h,CE,List.nodup_append]at this
 exactλhi=>this.2.2 st.idx hi st.idx (kb.2 ⟨st,hm,rfl⟩) rfl
theorem gq(hp:gy X P N l pre bN){i j t:Nat}(hi:im l i=some t)(hj:im l j=some t):i=j:=by
 have lt: ∀{i},im l i=some t->i<l.length:=λ{i}h=>by
  unfold im at h
  cases hl:l[i]? with
  |none=>simp[hl]at h
  |some o=>exact(fM.1 hl).1
 exact hp.UH i (Bd.2 (lt hi)) j (Bd.2 (lt hj)) t hi hj
theorem Fl{i t:Nat}(h:im l i=some t):i<l.length:=by
 unfold im at h
 cases hl:l[i]? with
 |none=>simp[hl]at h
 |some o=>exact(fM.1 hl).1
theorem gi{i:Nat}{o:Oper}(h:l[i]? =some o):im l i=o.dst:=by simp[im,h]
theorem pP(hp:gy X P N l pre bN){ds σ:List Step}{st:Step}(h:bN=ds++st::σ): ∀p∈il pre st.idx,p∈jk ds:=by
 intro p ku
 have hk:bN[ds.length]? =some st:=by rw[h];simp
 have:=hp.KF ds.length (by rw[Bd,h];simp) st hk p ku
 rw[h]at this
 simpa[jk]using this
theorem kf(hp:gy X P N l pre bN){ds σ:List Step}(h:bN=ds++σ){i:Nat}(hi:i∈jk ds): ∀p∈il pre i,p∈jk ds:=by
 intro p ku
 obtain⟨st,ia,rfl⟩:=kb.1 hi
 obtain⟨d1,d2,rfl⟩:=List.append_of_mem ia
 have:=pP hp (ds:=d1) (σ:=d2++σ) (by rw[h];simp) p ku
 simp only[jk,CE,la]
 exact .inl this
theorem Bt(hp:gy X P N l pre bN){E:Nat->Prop}{ds σ:List Step}{tr:List (Nat×Env×AV)}{bI:Env}{s:St}{a:Act}{w:World}{G:bZ}
  (h:pq P N ρ l pre bN K gS G0 s0 w0 E ds σ tr bI s a w G) {i t:Nat} {x:AV} (hr:Rd l pre bI gS i t x) (j7: ∀p∈il pre i,E p) (hd: ∀p∈il pre i,p∈jk ds) (qt: ¬E i):
  t<N/\V G x (a.tmps.getD t undef):=by
 rcases hr with⟨u,hu,KJ,hx⟩|⟨iA,hx⟩
 ·refine⟨?_,h.s2 u (j7 u hu) (hd u hu) t KJ x hx⟩
  have hl:=Fl KJ
  have:=hp.IR
  simp only[pN,py]at this
  obtain⟨o,ho⟩: ∃o,l[u]? =some o:=⟨_,dC hl⟩
  have h2:=this o (gx ho)
  rw[gi ho]at KJ
  rw[KJ]at h2
  simpa[l9]using h2
 ·refine h.s1 t x hx λj hj Ts=>?_
  exact qt (h.closed j hj i (iA j (h.lt j hj) Ts))
theorem Ae(hp:gy X P N l pre bN){E:Nat->Prop}{ds σ:List Step}{tr:List (Nat×Env×AV)}{bI:Env}{s:St}{a:Act}{w:World}{G:bZ}
  (h:pq P N ρ l pre bN K gS G0 s0 w0 E ds σ tr bI s a w G) {i t:Nat} {x:AV} {o:Oper} (ho:l[i]? =some o) (ht:t∈ik o++vy l o) (hx:bH bI t=some x) (qt:i ∉ jk ds):Rd l pre bI gS i t x:=by
 have rX:=(fM.1 ho).1
 rcases hp.reads i (Bd.2 rX) o ho t ht with⟨u,hu,KJ⟩|iA
 ·exact .inl ⟨u,hu,KJ,hx⟩
 ·refine .inr ⟨λu hu KJ=>iA u (Bd.2 hu) KJ,?_⟩
  rw[<-h.e0 t λj hj Ts=>?_]
  ·exact hx
  ·exact qt (kf hp h.split hj i (iA j (Bd.2 (Fl Ts)) Ts))
theorem Rd.put(hp:gy X P N l pre bN){ds:List Step}{bI env':Env}{i j t:Nat}{x:AV}(eJ: ∀t,im l i≠some t->bH env' t=bH bI t)(hj: ∀p∈il pre j,p∈jk ds)(hi:i ∉ jk ds)
  (h:Rd l pre bI gS j t x):Rd l pre env' gS j t x:=by
 rcases h with⟨u,hu,KJ,hx⟩|h
 ·refine .inl ⟨u,hu,KJ,?_⟩
  rw[eJ t λAf=>hi (by rw[gq hp Af KJ];exact hj u hu)]
  exact hx
 ·exact .inr h
theorem EQ.put(hp:gy X P N l pre bN){ds:List Step}{bI env':Env}{i j:Nat}{o:Oper}{b:Bool}(eJ: ∀t,im l i≠some t->bH env' t=bH bI t)(hj: ∀p∈il pre j,p∈jk ds)(hi:i ∉ jk ds)
  (h:EQ l pre bI gS j o b):EQ l pre env' gS j o b:=by
 unfold EQ at h |-
 split at h
 ·exact h
 ·obtain⟨d,c,h1,h2,h3⟩:=h
  exact⟨d,c,h1,h2.put hp eJ hj hi,h3⟩
theorem fW(d:Option Nat)(v:AV)(bI:Env)(t:Nat):bH (fp d v bI) t=if d=some t then some v else bH bI t:=by
 cases d with
 |none=>simp[fp]
 |some d=>simp only[fp,eC,Option.some.injEq]
theorem xw{op:Op}{e:Env}{s s':St}{v:AV}(hl:fN op=true)(hm: ∀id b,bH s.heap id=some b->bH s'.heap id=some b)(h:iL P op e s=some (v,s)):iL P op e s'=some (v,s'):=by
 have k: ∀{x y:Option AV},(∀v,x=some v->y=some v)->gg x s=some (v,s)->gg y s'=some (v,s'):=λGY h=>by
  rw[GY v (dF h).1];rfl
 by_cases ia:jR op=true
 ·exact mi ia h
 ·cases op<;>simp only[fN]at hl<;>first|(cases hl;done)|(exact absurd rfl ia)|skip
  case load t p=>
   simp only[iL]at h |-
   split at h
   ·refine k (λv hv=>?_) h
    unfold oX mI at hv |-
    rename_i q _
    cases q<;>simp only at hv |- <;>first|exact hv|skip
    rename_i id el off _
    cases hg:bH s.heap id with
    |none=>simp[hg]at hv
    |some b=>rw[hm id b hg];rw[hg]at hv;exact hv
   ·cases h
  case slice t x lo hi mx=>
   simp only[iL]at h |-
   split at h
   ·refine k (λv hv=>?_) h
    unfold oi at hv |-
    rename_i q _
    cases q<;>simp only at hv |- <;>first|exact hv|skip
    ·rename_i id bL len _
     cases he:dU P t with
     |none=>simp[he]at hv
     |some e'=>
      rw[he]at hv
      simp only at hv |-
      cases hg:bH s.heap id with
      |none=>simp[hg]at hv
      |some b=>rw[hm id b hg];rw[hg]at hv;exact hv
    ·rename_i id bL len cap _
     cases he:dU P t with
     |none=>simp[he]at hv
     |some e'=>
      rw[he]at hv
      simp only at hv |-
      cases hg:bH s.heap id with
      |none=>simp[hg]at hv
      |some b=>rw[hm id b hg];rw[hg]at hv;exact hv
   ·cases h
  case indexAddr t x i=>
   simp only[iL]at h |-
   split at h
   ·refine k (λv hv=>?_) h
    unfold eM at hv |-
    rename_i q j _ _
    cases j<;>simp only at hv |- <;>first|exact hv|skip
    cases he:dU P t with
    |none=>
     rw[he]at hv
     simp only at hv |-
     cases ha:vU P t with
     |none=>rw[ha]at hv;exact hv
     |some me=>
      obtain⟨m,e⟩:=me
      rw[ha]at hv
      simp only at hv |-
      cases hz:dl P e with
      |none=>rw[hz]at hv;exact hv
      |some sz=>
       rw[hz]at hv
       simp only at hv |-
       split at hv
       case isFalse=>cases hv
       rename_i hc
       rw[if_pos hc]
       cases q<;>simp only at hv |- <;>first|exact hv|skip
       rename_i id el off _
       cases hb:Nat.blt 8 m with
       |false=>rw[hb]at hv;exact hv
       |true=>
        rw[hb]at hv
        simp only[cond_true]at hv |-
        cases hg:bH s.heap id with
        |none=>simp[hg]at hv
        |some b=>rw[hm id b hg];rw[hg]at hv;exact hv
    |some e'=>
     rw[he]at hv
     simp only at hv |-
     cases q<;>simp only at hv |- <;>first|exact hv|skip
     rename_i id bL len _
     cases hg:bH s.heap id with
     |none=>simp[hg]at hv
     |some b=>rw[hm id b hg];rw[hg]at hv;exact hv
   ·cases h
  case call c=>
   obtain⟨callee,args,ts⟩:=c
   cases callee with
   |value f=>cases hl
   |invoke r m=>cases hl
   |builtin b=>cases b<;>simp only[]at hl<;>first|(cases hl;done)|(exact absurd rfl ia)
theorem vz{s:St}{w:World}{G:bZ}(hs:eA G s w)(b:gp): ∀id c,bH s.heap id=some c->bH ((s.bS,b)::s.heap) id=some c:=λid c hg=>by
 simp only[cR,cG]
 rw[if_neg (λe=>by
  subst e
  have:=hs.lt _ _ hg
  omega)]
 exact hg
theorem GX.later{s s':St}{w w':World}{G G':bZ}{tmps PQ:Array Value}{i:Nat}(hs:eA G s w)(h:GX P l G s w0 w tmps i)(hx:Ext G s w G' s' w')
  (ht: ∀t,im l i=some t->PQ[t]? =tmps[t]?):GX P l G' s' w0 w' PQ i:=by
 obtain⟨o,t,ty,z,b,cs,e,h1,h2,h3,h4,h5,h6,h8,h9,UJ,YQ⟩:=h
 have hb:b<w.heap.size:=(PH.1 h6).1
 refine⟨o,t,ty,z,b,cs,e,h1,h2,h3,h4,?_,?_,h8.mono hx.le,?_,?_,YQ⟩
 ·rw[ht t (by rw[gi h1];exact h3)];exact h5
 ·rw[hx.keep b hb h9];exact h6
 ·rintro⟨id,blk,r,q1,q2,q3⟩
  rcases hx.iK id r q2 with h|h|h
  ·rcases hx.ids id blk q1 with⟨b0,CU⟩|JS
   ·exact h9 ⟨id,b0,r,CU,h,q3⟩
   ·rw[hs.cq id JS]at h;cases h
  ·omega
  ·rw[q3]at h;exact h9 h
 ·intro j
  cases hj:G'.gD b j with
  |none=>rfl
  |some u=>
   rcases hx.jh b j u hj with h|h|h
   ·rw[UJ j]at h;cases h
   ·omega
   ·exact absurd h h9
theorem eA.UK{s:St}{w:World}{G:bZ}(hs:eA G s w)(hx:Ext G0 s0 w0 G s w){b:Nat}{cs:Array Value}{e:TypeId}{z:AV}(hw:w.heap[b]? =some (.cells cs e (0,0)))(hv:VL G z.cells cs)
  (rh: ¬lI G s b) (hi: ∀j,G.gD b j=none) (hb:w0.heap.size<=b) (h0:0<z.cells.length) (jg:z.cells.all AV.cS=true) (hd: ∀id,bH s0.heap id=some .gb->id≠s.bS):
  eA (G.put s.bS ⟨b,0,z.cells.length,cs.size⟩) ⟨(s.bS,.cells z.cells.length [z])::s.heap,s.bS+1⟩ w/\
  Ext G0 s0 w0 (G.put s.bS ⟨b,0,z.cells.length,cs.size⟩) ⟨(s.bS,.cells z.cells.length [z])::s.heap,s.bS+1⟩ w/\rC G (G.put s.bS ⟨b,0,z.cells.length,cs.size⟩):=by
 have ep:rC G (G.put s.bS ⟨b,0,z.cells.length,cs.size⟩):=.put (hs.cq _ (eu _))
 have jf: ∀id bb,bH ((s.bS,gp.cells z.cells.length [z])::s.heap) id=some bb->(id=s.bS/\bb=.cells z.cells.length [z])\/(id≠s.bS/\bH s.heap id=some bb):=λid bb hg=>by
  simp only[cR,cG]at hg
  split at hg
  ·cases hg;exact .inl ⟨by omega,rfl⟩
  ·exact .inr ⟨by omega,hg⟩
 have gE: ∀id,id≠s.bS->(G.put s.bS ⟨b,0,z.cells.length,cs.size⟩).own id=G.own id:=λid eJ=>by simp[bZ.put,eJ]
 have l8:(G.put s.bS ⟨b,0,z.cells.length,cs.size⟩).own s.bS=some ⟨b,0,z.cells.length,cs.size⟩:=by simp[bZ.put]
 refine⟨⟨hs.gD,λid bb hg=>?_,λid fq b1 b2 r1 r2 h1 h2 o1 o2 eJ=>?_,λid bb r o hg ho=>?_,λid jC=>?_,λid bb hg=>?_⟩,
  ⟨hx.le.trans ep,hx.os,hx.tape,hx.output,hx.size,hx.keep,hx.jh,λid r h=>?_,λid bb hg=>?_,vS hx.bS (Nat.le_succ _),λid jC=>?_,λid hl ho=>by have:=hx.bS;rw[gE id (by omega)];exact hx.stay id hl ho,hx.drawn⟩,ep⟩
 ·rcases jf id bb hg with⟨rfl,rfl⟩|⟨eJ,hg⟩
  ·exact .inl ⟨_,_,l8,hw,.cells _ _ _ _ rfl rfl h0 (by simp) (by simpa[di]using jg) (by simp[hv.1]) λk x hx=>by
    simp[di]at hx
    obtain⟨u,e1,e2⟩:=hv.get hx
    exact⟨u,by simpa using e1,e2.mono ep⟩⟩
  ·rcases hs.heap id bb hg with⟨r,o,e1,e2,e3⟩|⟨e1,e2⟩
   ·exact .inl ⟨r,o,by rw[gE id eJ];exact e1,e2,e3.mono ep⟩
   ·exact .inr ⟨by rw[gE id eJ];exact e1,e2⟩
 ·rcases jf id b1 h1 with⟨rfl,rfl⟩|⟨n1,g1⟩<;>rcases jf fq b2 h2 with⟨rfl,rfl⟩|⟨n2,g2⟩
  ·exact absurd rfl eJ
  ·rw[l8]at o1;cases o1
   rw[gE _ n2]at o2
   exactλe=>rh ⟨fq,b2,r2,g2,o2,e.symm⟩
  ·rw[l8]at o2;cases o2
   rw[gE _ n1]at o1
   exactλe=>rh ⟨id,b1,r1,g1,o1,e⟩
  ·rw[gE _ n1]at o1;rw[gE _ n2]at o2
   exact hs.apart id fq b1 b2 r1 r2 g1 g2 o1 o2 eJ
 ·rcases jf id bb hg with⟨rfl,rfl⟩|⟨n1,g1⟩
  ·rw[l8]at ho;cases ho;exact hi o
  ·rw[gE _ n1]at ho;exact hs.clear id bb r o g1 ho
 ·rw[gE id (by simp at jC;omega)];exact hs.cq id (by simp at jC;omega)
 ·show id<s.bS+1
  rcases jf id bb hg with⟨rfl,rfl⟩|⟨_,g⟩
  ·omega
  ·have:=hs.lt id bb g;omega
 ·by_cases jC:id=s.bS
  ·subst jC;rw[l8]at h;cases h;exact .inr (.inl hb)
  ·rw[gE id jC]at h;exact hx.iK id r h
 ·rcases jf id bb hg with⟨rfl,rfl⟩|⟨_,g⟩
  ·exact .inr hx.bS
  ·exact hx.ids id bb g
 ·simp only[cR,cG]
  rw[if_neg (λe=>hd id jC e.symm)]
  exact hx.gb id jC
theorem pQ(hp:gy X P N l pre bN){st st2:Step}(h1:st∈bN)(h2:st2∈bN)(h:st.idx=st2.idx):st=st2:=by
 obtain⟨i,hi,rfl⟩:=pA h1
 obtain⟨j,hj,rfl⟩:=pA h2
 have hn:=hp.perm.2.2
 rw[List.nodup_iff_pairwise_ne]at hn
 have YR:i=j:=by
  have h':(bN.map Step.idx)[i]? =(bN.map Step.idx)[j]?:=by simp[hi,hj,h]
  exact(List.getElem?_inj (by simpa using hi) (by rw[List.nodup_iff_pairwise_ne];exact hn)).1 h'
 subst YR;rfl
theorem W1(hp:gy X P N l pre bN)(h0:eA G0 s0 w0): ∀(σ:List Step){E:Nat->Prop}{ds:List Step}{tr:List (Nat×Env×AV)}{bI:Env}{s:St}{a:Act}{w:World}{G:bZ},
  pq P N ρ l pre bN K gS G0 s0 w0 E ds σ tr bI s a w G->
  ∃ds' σ' zy env' s' G',pq P N ρ l pre bN K gS G0 s0 w0 E ds' σ' zy env' s' a w G'/\ ∀st r,σ'=st::r->st.waits=true/\ ¬E st.idx
 | [],E,ds,tr,bI,s,a,w,G,h=>⟨ds,[],tr,bI,s,G,h,λ_ _ e=>by cases e⟩
 |st::r,E,ds,tr,bI,s,a,w,G,h=>by
  have jZ:st∈bN:=by rw[h.split];simp
  have Od:=pP hp h.split
  have rB:st.idx ∉ jk ds:=jS hp h.split (by simp)
  have fh:=h.run
  have gh:=hp.perm.1 st jZ
  obtain⟨o,ho⟩: ∃o,l[st.idx]? =some o:=⟨_,dC gh⟩
  have lg:=gi ho
  have Bu:bN=(ds++[st])++r:=by rw[h.split];simp
  have rj: ∀j,j∈jk (ds++[st])↔j∈jk ds\/j=st.idx:=λj=>by simp[jk]
  cases st with
  |ig i note=>
   simp only[Step.idx]at *
   simp only[zi,ho]at fh
   have uN:fN o.op=true:=hp.kinds _ jZ o ho
   have Tt: ¬E i:=λhE=>by
     rcases h.sub i hE with hi|⟨hi,_⟩
     ·exact rB hi
     ·have:=pQ hp (st:=.alloc i) (st2:=.ig i note) (by rw[h.split];simp only[la];exact .inr hi) jZ rfl
      cases this
   have go: ∀(env':Env)(zy:List (Nat×Env×AV)),(∀t,im l i≠some t->bH env' t=bH bI t)->(∀j,j≠i->pO zy j=pO tr j)->zi P l K r zy env' s->
      UI P l pre bN env' gS zy s i-> ∃ds' σ' zy env' s' G',pq P N ρ l pre bN K gS G0 s0 w0 E ds' σ' zy env' s' a w G'/\ ∀st r,σ'=st::r->st.waits=true/\ ¬E st.idx:=by
     intro env' zy eJ htr GP C5
     refine W1 hp h0 r (ds:=ds++[.ig i note]) (tr:=zy) (bI:=env') (s:=s) (G:=G) ⟨Bu,GP,h.iE,h.ext,h.size,h.lQ,h.known,h.lt,h.closed,λj hj=>?_,λst2 ia hw=>?_,h.s1,λj hj sP t ht x hx=>?_,λt ht=>?_,λj hj ER=>?_,λi1 j1 h1 h2 h3 h4=>h.C4 i1 j1 h1 h2 (by simp[h3]) (by simp[h4])⟩
     ·rcases h.sub j hj with hd|⟨hd,he⟩
      ·exact .inl ((rj j).2 (.inl hd))
      ·rcases mB.1 hd with hd|hd
       ·cases hd
       ·exact .inr ⟨hd,he⟩
     ·rcases la.1 ia with ia|ia
      ·exact h.wait st2 ia hw
      ·simp at ia;subst ia;cases hw
     ·rcases(rj j).1 sP with sP|rfl
      ·rw[eJ t λAf=>Tt (by rw[gq hp Af ht];exact hj)]at hx
       exact h.s2 j hj sP t ht x hx
      ·exact absurd hj Tt
     ·rw[eJ t λAf=>ht i ((rj i).2 (.inr rfl)) Af]
      exact h.e0 t λj hj=>ht j ((rj j).2 (.inl hj))
     ·rcases(rj j).1 hj with sP|rfl
      ·obtain⟨oj,q1,q2,q3⟩:=h.IU j sP ER
       have KK: ∀p∈il pre j,p∈jk ds:=kf hp h.split sP
       have pz:j≠i:=λe=>rB (e ▸ sP)
       have PR: ∀t,oj.dst=some t->bH env' t=bH bI t:=λt ht=>eJ t λAf=>pz (gq hp (by rw[gi q1];exact ht) Af)
       refine⟨oj,q1,q2,?_⟩
       rcases q3 with⟨g,e,v,p1,p2,p3,p4⟩|⟨g,p1⟩
       ·exact .inl ⟨g.put hp eJ KK rB,e,v,λt x hx=>(p1 t x hx).put hp eJ KK rB,p2,λt ht=>by rw[PR t ht];exact p3 t ht,λia=>by rw[htr j pz];exact p4 ia⟩
       ·exact .inr ⟨g.put hp eJ KK rB,λt ht=>by rw[PR t ht];exact p1 t ht⟩
      ·exact C5
   have exec:(match iL P o.op (iF (ik o) bI) s with
      |some (v,_)=>zi P l K r (if note then(i,iF (ik o) bI,v)::tr else tr) (fp o.dst v bI) s
      |none=>False)->EQ l pre (fp o.dst .any bI) gS i o true-> ∃ds' σ' zy env' s' G',pq P N ρ l pre bN K gS G0 s0 w0 E ds' σ' zy env' s' a w G'/\ ∀st r,σ'=st::r->st.waits=true/\ ¬E st.idx:=by
     intro hx hg
     split at hx
     case h_2=>cases hx
     rename_i v s1 hv
     have UL:=oA uN hv
     subst UL
     have eJ: ∀t,im l i≠some t->bH (fp o.dst v bI) t=bH bI t:=λt ht=>by rw[fW,if_neg (by rw[<-lg];exact ht)]
     have mE: ∀t,im l i≠some t->bH (fp o.dst v bI) t=bH (fp o.dst .any bI) t:=λt ht=>by rw[eJ t ht,fW,if_neg (by rw[<-lg];exact ht)]
     refine go _ _ eJ (λj hj=>?_) hx ⟨o,ho,uN,.inl ⟨hg.put hp mE Od rB,iF (ik o) bI,v,λt x hx=>?_,hv,λt ht=>by rw[fW,if_pos ht],λia=>?_⟩⟩
     ·cases note
      ·rfl
      ·simp only[if_true,pO];rw[if_neg (λe=>hj e.symm)]
     ·obtain⟨q1,q2⟩:=Ad hx
      exact(Ae hp h ho (by simp[q1]) q2 rB).put hp eJ Od rB
     ·obtain⟨st,ia,rfl⟩:=ia
      have:=pQ hp ia jZ rfl
      cases this
      simp[pO]
   have td:(lJ l o).guard=match o.guard with
      |none=>none
      |some (j,want)=>match(l[j]?).bind (·.dst)with
       |some d=>some (d,want)
       |none=>some (0,want):=rfl
   unfold W0 at fh
   rw[td]at fh
   cases C6:o.guard with
   |none=>
     simp only[C6,EP]at fh
     exact exec fh (by unfold EQ;rw[C6])
   |some jw=>
     obtain⟨j,want⟩:=jw
     have PS:=(py.1 hp.YP) o (gx ho)
     simp only[C6]at PS
     obtain⟨d,hd⟩:=zY.1 PS
     simp only[C6,hd,EP]at fh
     have C7: ∀x,bH bI d=some x->Fk x want=some false->zi P l K r tr (fp o.dst (.dW []) bI) s-> ∃ds' σ' zy env' s' G',pq P N ρ l pre bN K gS G0 s0 w0 E ds' σ' zy env' s' a w G'/\ ∀st r,σ'=st::r->st.waits=true/\ ¬E st.idx:=by
      intro x hx YS Q9
      have eJ: ∀t,im l i≠some t->bH (fp o.dst (.dW []) bI) t=bH bI t:=λt ht=>by rw[fW,if_neg (by rw[<-lg];exact ht)]
      refine go _ _ eJ (λ_ _=>rfl) Q9 ⟨o,ho,uN,.inr ⟨?_,λt ht=>by rw[fW,if_pos ht]⟩⟩
      unfold EQ;rw[C6]
      exact⟨d,x,hd,(Ae hp h ho (by simp[vy,C6,hd]) hx rB).put hp eJ Od rB,YS⟩
     split at fh
     case h_3=>cases fh
     case h_2=>rename_i hb;exact C7 _ hb rfl fh
     rename_i b hb
     have YT: ∀v,Rd l pre (fp o.dst v bI) gS i d (.bool b):=λv=>
      (Ae hp h ho (by simp[vy,C6,hd]) hb rB).put hp (λt ht=>by rw[fW,if_neg (by rw[<-lg];exact ht)]) Od rB
     by_cases KB:b=want
     ·exact exec (fh.1 KB) (by
       unfold EQ;rw[C6]
       exact⟨d,.bool b,hd,YT _,by simp[KB,Fk]⟩)
     ·exact C7 _ hb (by simp[Fk,KB]) (fh.2 (by cases b<;>cases want<;>simp_all))
  |gW i wb=>
   by_cases hE:E i
   · exfalso
     rcases h.sub i hE with hi|⟨hi,_⟩
     ·exact rB hi
     ·have:=pQ hp (st:=.alloc i) (st2:=.gW i wb) (by rw[h.split];simp only[la];exact .inr hi) jZ rfl
      cases this
   · exact⟨ds,_,tr,bI,s,G,h,λst r' e=>by cases e;exact⟨rfl,hE⟩⟩
  |alloc i=>
   by_cases hE:E i
   ·
     simp only[Step.idx]at *
     rcases h.sub i hE with hi|⟨_,he⟩
     ·exact absurd hi rB
     ·obtain⟨o',t,ty,z,b,cs,e,h1,h2,h3,h4,h5,h6,h8,h9,UJ,YQ⟩:=he
      rw[ho]at h1;cases h1
      simp only[zi,ho,h2,iL,h4]at fh
      unfold Bg at fh
      split at fh
      case h_2=>cases fh
      rename_i v s1 hq
      split at hq
      case isFalse=>cases hq
      rename_i hc
      cases hq
      obtain⟨q1,q2,q3⟩:=h.iE.UK h.ext h6 h8 h9 UJ YQ hc.1 hc.2 (λid jC e=>by
       subst e
       have h1:=h0.lt _ _ jC
       have h2:=h.ext.bS
       omega)
      have hdt:im l i=some t:=by rw[lg];exact h3
      have eJ: ∀t',im l i≠some t'->bH (fp o.dst (.mp s.bS 0 0) bI) t'=bH bI t':=λt' ht=>by rw[fW,if_neg (by rw[<-lg];exact ht)]
      refine W1 hp h0 r (ds:=ds++[.alloc i]) ⟨Bu,fh,q1,q2,h.size,?_,h.known.le q3,h.lt,h.closed,λj hj=>?_,λst2 ia hw=>?_,λt' x hx hn=>?_,λj hj sP t' ht x hx=>?_,λt' ht=>?_,λj hj ER=>?_,λi1 j1 h1 h2 h3 h4=>h.C4 i1 j1 h1 h2 (by simp[h3]) (by simp[h4])⟩
      ·have: ∀{dd:List Deferred},om G s dd->om (G.put s.bS ⟨b,0,z.cells.length,cs.size⟩) ⟨(s.bS,.cells z.cells.length [z])::s.heap,s.bS+1⟩ dd:=by
        intro dd
        induction dd with
        |nil=>intro _;trivial
        |cons d dd ih=>
         rintro⟨⟨id,r',a1,a2,a3,a4⟩,hr⟩
         refine⟨⟨id,r',?_,q3.own _ _ a2,a3,a4⟩,ih hr⟩
         simp only[cR,cG]
         rw[if_neg (λe=>by subst e;rw[h.iE.cq _ (eu _)]at a2;cases a2)]
         exact a1
       exact this h.lQ
      ·rcases h.sub j hj with hd|⟨hd,he⟩
       ·exact .inl ((rj j).2 (.inl hd))
       ·rcases mB.1 hd with hd|hd
        ·cases hd;exact .inl ((rj _).2 (.inr rfl))
        ·refine .inr ⟨hd,?_⟩
         obtain⟨oj,tj,tyj,zj,bj,csj,ej,j1,j2,j3,j4,j5,j6,j8,j9,j10,j11⟩:=he
         refine⟨oj,tj,tyj,zj,bj,csj,ej,j1,j2,j3,j4,j5,j6,j8.mono q3,?_,j10,j11⟩
         have YU:i≠j:=λe=>by
          subst e
          exact jS hp Bu hd ((rj _).2 (.inr rfl))
         rintro⟨id,blk,r',g1,g2,g3⟩
         by_cases jC:id=s.bS
         ·subst jC
          simp only[bZ.put,if_true,Option.some.injEq]at g2
          subst g2
          simp only at g3
          subst g3
          exact h.C4 i j hE hj (by simp) (by simp[hd]) YU t tj hdt (by rw[gi j1];exact j3) (by rw[h5,j5])
         ·simp only[bZ.put,if_neg jC]at g2
          simp only[cR,cG]at g1
          rw[if_neg (λe=>jC e.symm)]at g1
          exact j9 ⟨id,blk,r',g1,g2,g3⟩
      ·rcases la.1 ia with ia|ia
       ·exact h.wait st2 ia hw
       ·simp at ia;subst ia;exact hE
      ·obtain⟨p1,p2⟩:=h.s1 t' x hx hn
       exact⟨p1,p2.mono q3⟩
      ·rcases(rj j).1 sP with sP|rfl
       ·rw[eJ t' λAf=>rB (by rw[gq hp Af ht];exact sP)]at hx
        exact(h.s2 j hj sP t' ht x hx).mono q3
       ·rw[hdt]at ht;cases ht
        rw[fW,if_pos h3]at hx
        cases hx
        rw[wz,h5]
        have:=V.mp (G:=G.put s.bS ⟨b,0,z.cells.length,cs.size⟩) s.bS 0 0 ⟨b,0,z.cells.length,cs.size⟩ (by simp[bZ.put])
        simpa using this
      ·rw[eJ t' λAf=>ht i ((rj i).2 (.inr rfl)) Af]
       exact h.e0 t' λj hj=>ht j ((rj j).2 (.inl hj))
      ·rcases(rj j).1 hj with sP|rfl
       ·obtain⟨oj,q4,q5,q6⟩:=h.IU j sP ER
        have KK: ∀p∈il pre j,p∈jk ds:=kf hp h.split sP
        have pz:j≠i:=λe=>rB (e ▸ sP)
        have PR: ∀t,oj.dst=some t->bH (fp o.dst (.mp s.bS 0 0) bI) t=bH bI t:=λt ht=>eJ t λAf=>pz (gq hp (by rw[gi q4];exact ht) Af)
        refine⟨oj,q4,q5,?_⟩
        rcases q6 with⟨g,e',v,p1,p2,p3,p4⟩|⟨g,p1⟩
        ·exact .inl ⟨g.put hp eJ KK rB,e',v,λt x hx=>(p1 t x hx).put hp eJ KK rB,xw q5 (vz h.iE _) p2,λt ht=>by rw[PR t ht];exact p3 t ht,p4⟩
        ·exact .inr ⟨g.put hp eJ KK rB,λt ht=>by rw[PR t ht];exact p1 t ht⟩
       ·exact absurd hE ER
   · exact⟨ds,_,tr,bI,s,G,h,λst r' e=>by cases e;exact⟨rfl,hE⟩⟩
end
end Go.Am
end
section
namespace Go.Am
open Go.RowKit
section
variable {X:Nat->Nat->Prop} {P:Program} {N:Nat} {ρ:Option Nat} {l:List Oper} {pre:List (List Nat)} {bN:List Step} {K:Env->St->Prop} {gS:Env} {G0:bZ} {s0:St} {w0:World}
theorem eA.grow{s:St}{w:World}{G:bZ}(h:eA G s w)(o:Obj):eA G s (w.alloc o)/\Ext G s w G s (w.alloc o):=by
 refine⟨⟨λb i v hi=>?_,λid b hg=>?_,h.apart,h.clear,h.cq,h.lt⟩,⟨.refl G,rfl,rfl,rfl,by simp,λb hb _=>Below.heap_alloc _ _ _ hb,λ_ _ _ h=>.inl h,λ_ _ h=>.inl h,λ_ _ h=>.inl ⟨_,h⟩,eu _,λ_ h=>h,λ_ _ h=>h,eu _⟩⟩
 ·have hb:=h.rR hi
  rw[uB hb];exact h.gD b i v hi
 ·rcases h.heap id b hg with⟨r,o',e1,e2,e3⟩|e
  ·exact .inl ⟨r,o',e1,by rw[Below.heap_alloc _ _ _ (h.iY hg e1)];exact e2,e3⟩
  ·exact .inr e
theorem GZ{p q:Nat->Bool}: ∀{l:List Nat},(∀x∈l,q x=true->p x=true)-> ∀{i},i∈l->p i=true->q i=false->(l.filter q).length<(l.filter p).length
 | [],_,i,hi,_,_=>by cases hi
 |x::r,h,i,hi,hp,hq=>by
  have ep: ∀{l:List Nat},(∀x∈l,q x=true->p x=true)->(l.filter q).length<=(l.filter p).length:=λ{l}h=>by
   induction l with
   |nil=>simp
   |cons y t ih=>
    have ih':=ih λz hz=>h z (by simp[hz])
    simp only[Th]
    by_cases hy:q y=true
    ·rw[if_pos hy,if_pos (h y (by simp) hy)];simpa using ih'
    ·rw[if_neg hy]
     split
     ·simp only[oc];omega
     ·exact ih'
  simp only[Th]
  rcases mB.1 hi with rfl|hi
  ·rw[if_neg (by simp[hq]),if_pos hp,oc]
   have:=ep (l:=r) λz hz=>h z (by simp[hz])
   omega
  ·have ih:=GZ (l:=r) (λz hz=>h z (by simp[hz])) hi hp hq
   by_cases hx:q x=true
   ·rw[if_pos hx,if_pos (h x (by simp) hx)];simpa using ih
   ·rw[if_neg hx]
    split
    ·simp only[oc];omega
    ·exact ih
theorem xx{v:Value}{x:AV}(h:ofValue v=some x):x≠ .any:=by
 unfold ofValue at h
 split at h
 ·split at h
  ·cases h;simp
  ·cases h
 ·unfold xb at h
  split at h<;>cases h<;>simp
theorem Bv{t:Nat}{x:AV}(h:ji P t=some x):x≠ .any:=by
 unfold ji at h
 split at h
 ·exact xx h
 ·cases h
theorem qu{ops:Array Oper}(hl:ops.toList=l){E:Nat->Prop}{ds σ:List Step}{tr:List (Nat×Env×AV)}{bI:Env}{s:St}{a:Act}{w:World}{G:bZ}(hp:gy X P N l pre bN)
  (h:pq P N ρ l pre bN K gS G0 s0 w0 E ds σ tr bI s a w G) {i:Nat} {o:Oper} {b:Bool} (hg:EQ l pre bI gS i o b) (j7: ∀p∈il pre i,E p) (hd: ∀p∈il pre i,p∈jk ds) (qt: ¬E i):
  Region.wanted o (yielded ops a.tmps)=b:=by
 unfold EQ at hg
 unfold Region.wanted
 split at hg
 ·rename_i hq;rw[hq];exact hg.symm
 ·rename_i j want hq
  obtain⟨d,x,h1,h2,h3⟩:=hg
  obtain⟨q1,q2⟩:=Bt hp h h2 j7 hd qt
  rw[hq]
  unfold Fk at h3
  have UM:yielded ops a.tmps j=match a.tmps.getD d undef with
    |.bool b=>some b
    |_=>none:=by
   unfold yielded
   have:(ops[j]?).bind (·.dst)=some d:=by
    rw[<-h1];unfold im;rw[<-hl];simp
   rw[this]
   simp only[cH]
   have gh:d<a.tmps.size:=by rw[h.size];exact q1
   rw[wz,JP gh,Bc]
   generalize a.tmps[d]=v
   cases v<;>rfl
  generalize a.tmps.getD d undef=v at q2 UM
  split at h3
  ·rename_i c want
   cases q2
   simp only at UM
   simp only[UM]
   cases h3
   cases c<;>cases want<;>rfl
  ·cases q2
   simp only at UM
   simp only[UM]
   cases h3
   rfl
  ·cases h3
theorem iO{a:Act}{d:Option Nat}{v:Value}{t:Nat}(h:d≠some t):(a.put d v).tmps.getD t undef=a.tmps.getD t undef/\(a.put d v).tmps[t]? =a.tmps[t]?:=by
 cases d with
 |none=>exact⟨rfl,rfl⟩
 |some d=>
  have eJ:d≠t:=λe=>h (by rw[e])
  simp only[Act.put]
  refine⟨?_,Uc eJ⟩
  rw[wz,Uc eJ,<-wz]
theorem kY{a:Act}{t:Nat}{v:Value}(h:t<a.tmps.size):(a.put (some t) v).tmps.getD t undef=v/\(a.put (some t) v).tmps[t]? =some v:=by
 simp[Act.put,wz,h]
theorem xy(a:Act)(d:Option Nat)(v:Value):(a.put d v).tmps.size=a.tmps.size:=by cases d<;>simp[Act.put]
theorem pR(a:Act)(d:Option Nat)(v:Value):(a.put d v).defers=a.defers:=by cases d<;>rfl
theorem xz{E:Nat->Prop}{ds σ:List Step}{tr:List (Nat×Env×AV)}{bI:Env}{s:St}{a:Act}{w w':World}{G G':bZ}(hp:gy X P N l pre bN)(h0:eA G0 s0 w0)
  (h:pq P N ρ l pre bN K gS G0 s0 w0 E ds σ tr bI s a w G) {i:Nat} {o:Oper} (ho:l[i]? =some o) (hi:i∈jk ds) (qt: ¬E i) (j7: ∀p∈il pre i,E p) {v:Value}
  (hv: ∀t,o.dst=some t-> ∀x,bH bI t=some x->V G' x v) (hs:eA G' s w') (hx:Ext G s w G' s w') {E':Nat->Prop} (hE: ∀j,E' j↔E j\/j=i):
  pq P N ρ l pre bN K gS G0 s0 w0 E' ds σ tr bI s (a.put o.dst v) w' G':=by
 have lg:=gi ho
 refine⟨h.split,h.run,hs,h.ext.trans h0 hx,by rw[xy];exact h.size,by rw[pR];exact h.lQ.ext hx,h.known.le hx.le,λj hj=>?_,λj hj p ku=>?_,λj hj=>?_,λst ia hw=>(hE _).2 (.inl (h.wait st ia hw)),λt x wD hn=>?_,λj hj sP t ht x wD=>?_,h.e0,λj hj ER=>?_,λi1 j1 h1 h2 h3 h4 pz t1 t2 d1 d2=>?_⟩
 ·rcases(hE j).1 hj with hj|rfl
  ·exact h.lt j hj
  ·exact(fM.1 ho).1
 ·rcases(hE j).1 hj with hj|rfl
  ·exact(hE p).2 (.inl (h.closed j hj p ku))
  ·exact(hE p).2 (.inl (j7 p ku))
 ·rcases(hE j).1 hj with hj|rfl
  ·rcases h.sub j hj with hd|⟨hd,he⟩
   ·exact .inl hd
   ·refine .inr ⟨hd,he.later h.iE hx λt ht=>(iO λe=>?_).2⟩
    have:=gq hp (by rw[lg];exact e) ht
    subst this;exact qt hj
  ·exact .inl hi
 ·have h1:o.dst≠some t:=λe=>hn i ((hE i).2 (.inr rfl)) (by rw[lg];exact e)
  rw[(iO h1).1]
  obtain⟨q1,q2⟩:=h.s1 t x wD λj hj=>hn j ((hE j).2 (.inl hj))
  exact⟨q1,q2.mono hx.le⟩
 ·rcases(hE j).1 hj with hj|rfl
  ·have h1:o.dst≠some t:=λe=>by
    have:=gq hp (by rw[lg];exact e) ht
    subst this;exact qt hj
   rw[(iO h1).1]
   exact(h.s2 j hj sP t ht x wD).mono hx.le
  ·rw[lg]at ht
   have gh:t<a.tmps.size:=by
    have h2:=(py.1 hp.IR) o (gx ho)
    rw[ht]at h2
    rw[h.size];simpa[l9]using h2
   rw[ht,(kY gh).1]
   exact hv t ht x wD
 ·exact h.IU j hj λe=>ER ((hE j).2 (.inl e))
 ·have pD: ∀{k tk},E' k->Step.alloc k∈σ->im l k=some tk->E k/\(a.put o.dst v).tmps[tk]? =a.tmps[tk]?:=λ{k tk}hk KL KM=>by
   rcases(hE k).1 hk with hk|rfl
   ·refine⟨hk,(iO λe=>?_).2⟩
    have:=gq hp (by rw[lg];exact e) KM
    subst this;exact qt hk
   ·exact absurd hi (jS hp h.split KL)
  obtain⟨e1,e2⟩:=pD h1 h3 d1
  obtain⟨e3,e4⟩:=pD h2 h4 d2
  rw[e2,e4]
  exact h.C4 i1 j1 e1 e3 h3 h4 pz t1 t2 d1 d2
theorem uO{E:Nat->Prop}{ds r:List Step}{st:Step}{tr:List (Nat×Env×AV)}{bI:Env}{s s':St}{a:Act}{w w':World}{G G':bZ}(hp:gy X P N l pre bN)(h0:eA G0 s0 w0)
  (h:pq P N ρ l pre bN K gS G0 s0 w0 E ds (st::r) tr bI s a w G) {o:Oper} (ho:l[st.idx]? =some o) (qt: ¬E st.idx) (j7: ∀p∈il pre st.idx,E p) {v:Value} {env':Env}
  (eJ: ∀t,o.dst≠some t->bH env' t=bH bI t) (hv: ∀t,o.dst=some t-> ∀x,bH env' t=some x->V G' x v) (hs:eA G' s' w') (hx:Ext G s w G' s' w')
  (fh:zi P l K r tr env' s') (UN: ∀j∈jk ds,¬E j-> ∀oj e v,l[j]? =some oj->fN oj.op=true->iL P oj.op e s=some (v,s)->((∃st∈bN,st=.ig j true)->pO tr j=some (e,v))->j ∉ il pre st.idx->iL P oj.op e s'=some (v,s'))
  {E':Nat->Prop} (hE: ∀j,E' j↔E j\/j=st.idx):
  pq P N ρ l pre bN K gS G0 s0 w0 E' (ds++[st]) r tr env' s' (a.put o.dst v) w' G':=by
 have lg:=gi ho
 have rB:st.idx ∉ jk ds:=jS hp h.split (by simp)
 have rj: ∀j,j∈jk (ds++[st])↔j∈jk ds\/j=st.idx:=λj=>by simp[jk]
 have mE: ∀t,im l st.idx≠some t->bH env' t=bH bI t:=λt ht=>eJ t (by rw[<-lg];exact ht)
 have jZ:st∈bN:=by rw[h.split];simp
 refine⟨by rw[h.split];simp,fh,hs,h.ext.trans h0 hx,by rw[xy];exact h.size,by rw[pR];exact h.lQ.ext hx,h.known.le hx.le,λj hj=>?_,λj hj p ku=>?_,λj hj=>?_,λst2 ia hw=>?_,λt x wD hn=>?_,λj hj sP t ht x wD=>?_,λt ht=>?_,λj hj ER=>?_,λi1 j1 h1 h2 h3 h4 pz t1 t2 d1 d2=>?_⟩
 ·rcases(hE j).1 hj with hj|rfl
  ·exact h.lt j hj
  ·exact(fM.1 ho).1
 ·rcases(hE j).1 hj with hj|rfl
  ·exact(hE p).2 (.inl (h.closed j hj p ku))
  ·exact(hE p).2 (.inl (j7 p ku))
 ·rcases(hE j).1 hj with hj|rfl
  ·rcases h.sub j hj with hd|⟨hd,he⟩
   ·exact .inl ((rj j).2 (.inl hd))
   ·rcases mB.1 hd with hd|hd
    ·exfalso;rw[<-hd]at qt;exact qt hj
    ·refine .inr ⟨hd,he.later h.iE hx λt ht=>(iO λe=>?_).2⟩
     have:=gq hp (by rw[lg];exact e) ht
     subst this;exact qt hj
  ·exact .inl ((rj _).2 (.inr rfl))
 ·rcases la.1 ia with ia|ia
  ·exact(hE _).2 (.inl (h.wait st2 ia hw))
  ·simp at ia;subst ia;exact(hE _).2 (.inr rfl)
 ·have h1:o.dst≠some t:=λe=>hn st.idx ((hE _).2 (.inr rfl)) (by rw[lg];exact e)
  rw[(iO h1).1]
  obtain⟨q1,q2⟩:=h.s1 t x wD λj hj=>hn j ((hE j).2 (.inl hj))
  exact⟨q1,q2.mono hx.le⟩
 ·rcases(hE j).1 hj with hj|rfl
  ·have h1:o.dst≠some t:=λe=>by
    have:=gq hp (by rw[lg];exact e) ht
    subst this;exact qt hj
   rw[(iO h1).1]
   rw[eJ t h1]at wD
   rcases(rj j).1 sP with sP|rfl
   ·exact(h.s2 j hj sP t ht x wD).mono hx.le
   ·exact absurd hj qt
  ·rw[lg]at ht
   have gh:t<a.tmps.size:=by
    have h2:=(py.1 hp.IR) o (gx ho)
    rw[ht]at h2
    rw[h.size];simpa[l9]using h2
   rw[ht,(kY gh).1]
   exact hv t ht x wD
 ·rw[mE t λAf=>ht st.idx ((rj _).2 (.inr rfl)) Af]
  exact h.e0 t λj hj=>ht j ((rj j).2 (.inl hj))
 ·have Tt: ¬E j:=λe=>ER ((hE j).2 (.inl e))
  rcases(rj j).1 hj with sP|rfl
  ·obtain⟨oj,q4,q5,q6⟩:=h.IU j sP Tt
   have KK: ∀p∈il pre j,p∈jk ds:=kf hp h.split sP
   have pz:j≠st.idx:=λe=>rB (e ▸ sP)
   have PR: ∀t,oj.dst=some t->bH env' t=bH bI t:=λt ht=>mE t λAf=>pz (gq hp (by rw[gi q4];exact ht) Af)
   have hjp:j ∉ il pre st.idx:=λe=>Tt (j7 j e)
   refine⟨oj,q4,q5,?_⟩
   rcases q6 with⟨g,e',v',p1,p2,p3,p4⟩|⟨g,p1⟩
   ·exact .inl ⟨g.put hp mE KK rB,e',v',λt x hx=>(p1 t x hx).put hp mE KK rB,UN j sP Tt oj e' v' q4 q5 p2 p4 hjp,λt ht=>by rw[PR t ht];exact p3 t ht,p4⟩
   ·exact .inr ⟨g.put hp mE KK rB,λt ht=>by rw[PR t ht];exact p1 t ht⟩
  ·exact absurd ((hE _).2 (.inr rfl)) ER
 ·have zn:bN=(ds++[st])++r:=by rw[h.split];simp
  have pD: ∀{k tk},E' k->Step.alloc k∈r->im l k=some tk->E k/\(a.put o.dst v).tmps[tk]? =a.tmps[tk]?:=λ{k tk}hk KL KM=>by
   rcases(hE k).1 hk with hk|rfl
   ·refine⟨hk,(iO λe=>?_).2⟩
    have:=gq hp (by rw[lg];exact e) KM
    subst this;exact qt hk
   ·exact absurd ((rj _).2 (.inr rfl)) (jS (st:=.alloc st.idx) hp zn KL)
  obtain⟨e1,e2⟩:=pD h1 h3 d1
  obtain⟨e3,e4⟩:=pD h2 h4 d2
  rw[e2,e4]
  exact h.C4 i1 j1 e1 e3 (by simp[h3]) (by simp[h4]) pz t1 t2 d1 d2
theorem IV{ops:Array Oper}(hl:ops.toList=l)(hp:gy X P N l pre bN)(h0:eA G0 s0 w0){Q:Exit->Env->St->Prop}(ro:Option Nat){l7:Nat}{dm:Array Bool}{ds r:List Step}{st:Step}{tr:List (Nat×Env×AV)}{bI:Env}{s:St}{a:Act}{w:World}{G:bZ}
  (h:pq P N ρ l pre bN K gS G0 s0 w0 (λi=>dm.getD i false=true) ds (st::r) tr bI s a w G) (hw:st.waits=true) {o:Oper} (ho:l[st.idx]? =some o) (qt: ¬dm.getD st.idx false=true) (j7: ∀p∈il pre st.idx,dm.getD p false=true) (eP:st.idx ∉ jk ds)
  (hE: ∀j,(dm.setIfInBounds st.idx true).getD j false=true↔dm.getD j false=true\/j=st.idx)
  (go: ∀{ds' σ':List Step}{zy:List (Nat×Env×AV)}{env':Env}{s':St}{a':Act}{w':World}{G':bZ},
    pq P N ρ l pre bN K gS G0 s0 w0 (λj=>(dm.setIfInBounds st.idx true).getD j false=true) ds' σ' zy env' s' a' w' G'->wpAnyIn (uD ro) 0 P .any ops (gM G0 N ρ s0 w0 Q) l7 (dm.setIfInBounds st.idx true) a' w'):
  if Region.wanted o (yielded ops a.tmps)=true then o.wpIn (uD ro) 0 P a w (wpAnyIn (uD ro) 0 P .any ops (gM G0 N ρ s0 w0 Q) l7 (dm.setIfInBounds st.idx true)) (gM G0 N ρ s0 w0 Q)else(∀f,o.about P w a.eval=some f->(uD ro).fn f)/\wpAnyIn (uD ro) 0 P .any ops (gM G0 N ρ s0 w0 Q) l7 (dm.setIfInBounds st.idx true) (a.put o.dst undef) w:=by
 have lg:=gi ho
 have jZ:st∈bN:=by rw[h.split];simp
 have Oe: ∀p∈il pre st.idx,p∈jk ds:=pP hp h.split
 have fh:=h.run
 have YT: ∀t∈ik o++vy l o,∀x,bH bI t=some x->t<N/\V G x (a.tmps.getD t undef):=λt ht x hx=>Bt hp h (Ae hp h ho ht hx eP) j7 Oe qt
 cases st with
 |ig _ _=>cases hw
 |gW i wb=>
  simp only[Step.idx]at *
  simp only[zi,ho]at fh
  unfold W0 at fh
  have IQ:wB G N ρ (iF (ik o) bI) s a w:=⟨h.iE,λt x hx=>by
   obtain⟨m1,m2⟩:=Ad hx
   obtain⟨r1,r2⟩:=YT t (by simp[m1]) x m2
   exact⟨by rw[h.size];exact r1,r2⟩,h.size,h.lQ,h.known⟩
  have exec:ows P o.op (λv s'=>rW P l tr s' wb/\zi P l K r tr (fp o.dst v bI) s') (iF (ik o) bI) s->o.wpIn (uD ro) 0 P a w (wpAnyIn (uD ro) 0 P .any ops (gM G0 N ρ s0 w0 Q) l7 (dm.setIfInBounds i true)) (gM G0 N ρ s0 w0 Q):=by
   intro YV
   refine uK (K:=λv s'=>rW P l tr s' wb/\zi P l K r tr (fp o.dst v bI) s') YV IQ ro ?_
   intro v G' x s' w' hv hs hx ⟨hc,hr⟩
   refine go (uO (st:=.gW i wb) hp h0 h ho qt j7 (env':=fp o.dst x bI) (λt ht=>by rw[fW,if_neg ht]) (λt ht y hy=>by rw[fW,if_pos ht]at hy;cases hy;exact hv) hs hx hr (λj hj ER oj e u q1 q2 q3 q4 q5=>?_) hE)
   by_cases ia:jR oj.op=true
   ·exact mi ia q3
   ·have hk:bN[ds.length]? =some (.gW i wb):=by rw[h.split];simp
    have W2:=hp.KG ds.length (by rw[Bd,h.split];simp) _ hk
    simp only at W2
    obtain⟨YW,Ra,rfl⟩:=kb.1 hj
    have PT:YW∈bN.take ds.length:=by rw[h.split];simpa using Ra
    have h3:=W2 YW PT
    cases YW with
    |ig j note=>
     simp only at h3
     rcases h3 oj q1 with h4|h4|⟨rfl,h4⟩
     ·exact absurd h4 ia
     ·exact absurd h4 q5
     ·exact xu hc j h4 (q4 ⟨_,w8 PT,rfl⟩) q1
    |gW j c=>exact absurd (h.wait _ Ra rfl) ER
    |alloc j=>exact absurd (h.wait _ Ra rfl) ER
  have UO:(lJ l o).guard=match o.guard with
    |none=>none
    |some (j,want)=>match(l[j]?).bind (·.dst)with
     |some d=>some (d,want)
     |none=>some (0,want):=rfl
  rw[UO]at fh
  cases C6:o.guard with
  |none=>
   simp only[C6,EP]at fh
   rw[if_pos (by simp[Region.wanted,C6])]
   exact exec fh
  |some jw=>
   obtain⟨j,want⟩:=jw
   have PS:=(py.1 hp.YP) o (gx ho)
   simp only[C6]at PS
   obtain⟨d,hd⟩:=zY.1 PS
   simp only[C6,hd,EP]at fh
   have C7: ∀x,bH bI d=some x->Fk x want=some false->zi P l K r tr (fp o.dst (.dW []) bI) s->_:=λx hx YS Q9=>by
    have Rb:EQ l pre bI gS i o false:=by
     unfold EQ;rw[C6]
     exact⟨d,x,hd,Ae hp h ho (by simp[vy,C6,hd]) hx eP,YS⟩
    have KN:=qu hl hp h Rb j7 Oe qt
    exact(by
     rw[if_neg (by rw[KN];simp)]
     exact⟨λ_ _=>trivial,go (uO (st:=.gW i wb) hp h0 h ho qt j7 (env':=fp o.dst (.dW []) bI) (λt ht=>by rw[fW,if_neg ht]) (λt ht y hy=>by rw[fW,if_pos ht]at hy;cases hy;exact .dW [] #[] rfl (by simp)) h.iE (.refl _ _ _) Q9 (λj hj ER oj e u q1 q2 q3 q4 q5=>q3) hE)⟩:if Region.wanted o (yielded ops a.tmps)=true then o.wpIn (uD ro) 0 P a w (wpAnyIn (uD ro) 0 P .any ops (gM G0 N ρ s0 w0 Q) l7 (dm.setIfInBounds i true)) (gM G0 N ρ s0 w0 Q)else(∀f,o.about P w a.eval=some f->(uD ro).fn f)/\wpAnyIn (uD ro) 0 P .any ops (gM G0 N ρ s0 w0 Q) l7 (dm.setIfInBounds i true) (a.put o.dst undef) w)
   split at fh
   case h_3=>cases fh
   case h_2=>rename_i hb;exact C7 _ hb rfl fh
   rename_i b hb
   have Rb:EQ l pre bI gS i o (b==want):=by
    unfold EQ;rw[C6]
    exact⟨d,.bool b,hd,Ae hp h ho (by simp[vy,C6,hd]) hb eP,rfl⟩
   have KN:=qu hl hp h Rb j7 Oe qt
   by_cases KB:b=want
   ·rw[if_pos (by rw[KN];simp[KB])]
    exact exec (fh.1 KB)
   ·exact C7 _ hb (by simp[Fk,KB]) (fh.2 (by cases b<;>cases want<;>simp_all))
 |alloc i=>
  simp only[Step.idx]at *
  simp only[zi,ho]at fh
  obtain⟨k1,k2,k3⟩:=hp.kinds _ jZ o ho
  rw[if_pos (by simp[Region.wanted,k2])]
  split at fh
  case h_2=>cases fh
  rename_i v s' hv
  obtain⟨nx,u,G',w',e1,e2,e3,e4,e5⟩:=uJ (a:=a) h.iE (bI:=[]) (λt x hx=>by simp[cR,cG]at hx) o hv
  have UP: ∀id b,bH s.heap id=some b->bH s'.heap id=some b:=by
   cases xp:o.op with
   |alloc t=>
    rw[xp]at hv k1
    obtain⟨z0,UQ⟩:=zY.1 k1
    simp only[iL,UQ]at hv
    ·unfold Bg at hv
     split at hv
     ·cases hv;exact vz h.iE _
     ·cases hv
   |_=>rw[xp]at k1;exact k1.elim
  refine⟨λ_ _=>trivial,?_⟩
  rw[Oper.semAt_eq _ _ _ (λc=>by intro e;rw[e]at k1;exact k1.elim),e1]
  have uy:=uO (st:=.alloc i) hp h0 h ho qt j7 (v:=u) (env':=fp o.dst v bI) (λt ht=>by rw[fW,if_neg ht]) (λt ht y hy=>by rw[fW,if_pos ht]at hy;cases hy;exact e3) e4 e5 fh
   (λj hj ER oj e u q1 q2 q3 q4 q5=>xw q2 UP q3) hE
  rcases e2 with rfl|⟨rfl,rfl⟩
  ·rw[Oper.uponIn_value];exact go uy
  ·rw[Oper.uponIn_skip];exact go uy
theorem KO{ops:Array Oper}(hl:ops.toList=l): ∀(dm:Array Bool)(i:Nat),dm.size=l.length->i∈Region.ready .any ops dm->i<l.length/\dm.getD i false=false/\ ∀o,l[i]? =some o-> ∀p∈direct o,dm.getD p false=true:=by
 have dt:ops.size=l.length:=by rw[<-hl];simp
 intro dm i eo hi
 unfold Region.ready at hi
 rw[mC,Bd]at hi
 obtain⟨h1,h2⟩:=hi
 rw[dt]at h1
 simp only[eW,pC]at h2
 refine⟨h1,?_,λo ho p ku=>?_⟩
 ·have:=h2.1
  have gh:i<dm.size:=by omega
  simp only[wz,JP gh,Bc]at this |-
  exact this
 ·have h3:=h2.2
  have UR:ops[i]? =some o:=by rw[<-ho,<-hl];simp
  rw[UR]at h3
  simp only[gl,Bc,zEP,sS,pC]at h3
  obtain⟨e,he,rfl⟩:=kb.1 ku
  obtain⟨PU,PV⟩:=mC.1 he
  rcases h3 e (by simpa using PU)with h|h
  ·rw[h]at PV;cases PV
  ·exact h
theorem IW{ops:Array Oper}(hl:ops.toList=l)(hp:gy X P N l pre bN): ∀(dm:Array Bool),dm.size=l.length->Region.ready .any ops dm=[]-> ∀i,i<l.length->dm.getD i false=true:=by
 have dt:ops.size=l.length:=by rw[<-hl];simp
 intro dm eo hr i
 induction i using Nat.strongRecOn with
 |_ i ih=>
  intro hi
  apply Classical.byContradiction
  intro hn
  have jZ:i∈Region.ready .any ops dm:=by
   unfold Region.ready
   rw[mC,Bd]
   refine⟨by omega,?_⟩
   obtain⟨o,ho⟩: ∃o,l[i]? =some o:=⟨_,dC hi⟩
   have UR:ops[i]? =some o:=by rw[<-ho,<-hl];simp
   have gh:i<dm.size:=by omega
   simp only[eW,pC,UR,gl,Bc,zEP,sS]
   refine⟨?_,λe he=>?_⟩
   ·simp only[wz,JP gh,Bc]at hn |-
    simpa using hn
   ·by_cases hb:Region.binds .any e=true
    ·right
     have hd:e.on∈direct o:=kb.2 ⟨e,mC.2 ⟨by simpa using he,hb⟩,rfl⟩
     have YX:=(hp.KE i (Bd.2 hi) o ho).1 e.on hd
     exact ih e.on YX (by omega)
    ·left;simpa using hb
  rw[hr]at jZ;cases jZ
theorem IX{ops:Array Oper}(hl:ops.toList=l)(hp:gy X P N l pre bN)(h0:eA G0 s0 w0){Q:Exit->Env->St->Prop}(hQ: ∀bI s,K bI s->Q .normal bI s)(ro:Option Nat):
  ∀(l7:Nat)(dm:Array Bool)(ds σ:List Step)(tr:List (Nat×Env×AV))(bI:Env)(s:St)(a:Act)(w:World)(G:bZ),dm.size=l.length->
    ((List.range l.length).filter λi=>!dm.getD i false).length<=l7->
    pq P N ρ l pre bN K gS G0 s0 w0 (λi=>dm.getD i false=true) ds σ tr bI s a w G->(∀st r,σ=st::r->st.waits=true/\ ¬dm.getD st.idx false=true)->(∀x y,X x y->dm.getD x false=true)->
    wpAnyIn (uD ro) 0 P .any ops (gM G0 N ρ s0 w0 Q) l7 dm a w:=by
 have dt:ops.size=l.length:=by rw[<-hl];simp
 have fin: ∀(dm:Array Bool)(ds σ:List Step)(tr:List (Nat×Env×AV))(bI:Env)(s:St)(a:Act)(w:World)(G:bZ),dm.size=l.length->
    pq P N ρ l pre bN K gS G0 s0 w0 (λi=>dm.getD i false=true) ds σ tr bI s a w G->(∀st r,σ=st::r->st.waits=true/\ ¬dm.getD st.idx false=true)->
    (∀i,i<l.length->dm.getD i false=true)->gM G0 N ρ s0 w0 Q .normal a w:=by
  intro dm ds σ tr bI s a w G eo h hn iA
  have hσ:σ=[]:=by
    cases σ with
    |nil=>rfl
    |cons st r=>
     exfalso
     exact(hn st r rfl).2 (iA _ (hp.perm.1 st (by rw[h.split];simp)))
  subst hσ
  have eP: ∀i,i<l.length->i∈jk ds:=λi hi=>by
    rcases h.sub i (iA i hi)with hd|⟨hd,_⟩
    ·exact hd
    ·cases hd
  refine⟨G,bI,s,⟨h.iE,λt x hx=>?_,h.size,h.lQ,h.known⟩,h.ext,hQ _ _ h.run⟩
  by_cases hw: ∃i,im l i=some t
  · obtain⟨i,hi⟩:=hw
    have rX:=Fl hi
    refine⟨?_,h.s2 i (iA i rX) (eP i rX) t hi x hx⟩
    obtain⟨o,ho⟩: ∃o,l[i]? =some o:=⟨_,dC rX⟩
    have h2:=(py.1 hp.IR) o (gx ho)
    rw[gi ho]at hi
    rw[hi]at h2
    rw[h.size];simpa[l9]using h2
  · rw[h.e0 t λi _ hi=>hw ⟨i,hi⟩]at hx
    obtain⟨q1,q2⟩:=h.s1 t x hx λi _ hi=>hw ⟨i,hi⟩
    exact⟨by rw[h.size];exact q1,q2⟩
 have rdy:=KO hl
 have Fm:=IW hl hp
 intro l7
 induction l7 with
 |zero=>
  intro dm ds σ tr bI s a w G eo hf h hn hX
  have iA: ∀i,i<l.length->dm.getD i false=true:=λi hi=>by
    apply Classical.byContradiction
    intro hq
    have:0<((List.range l.length).filter λi=>!dm.getD i false).length:=X5 (mC.2 ⟨Bd.2 hi,by simpa using hq⟩)
    omega
  refine⟨?_,fin dm ds σ tr bI s a w G eo h hn iA⟩
  cases hr:Region.ready .any ops dm with
  |nil=>rfl
  |cons i r=>
    obtain⟨q1,q2,_⟩:=rdy dm i eo (by rw[hr];simp)
    rw[iA i q1]at q2;cases q2
 |succ l7 ih=>
  intro dm ds σ tr bI s a w G eo hf h hn hX
  refine⟨λhr=>fin dm ds σ tr bI s a w G eo h hn (Fm dm eo hr),λi hi=>?_⟩
  obtain⟨rX,JT,US⟩:=rdy dm i eo hi
  obtain⟨o,ho⟩: ∃o,l[i]? =some o:=⟨_,dC rX⟩
  have UR:ops[i]? =some o:=by rw[<-ho,<-hl];simp
  have qt: ¬dm.getD i false=true:=by rw[JT];simp
  have j7: ∀p∈il pre i,dm.getD p false=true:=λp ku=>by
    obtain⟨_,h2⟩:=hp.KE i (Bd.2 rX) o ho
    rcases(h2 p ku).2 with hd|⟨d,hd,Oe⟩
    ·exact US o ho p hd
    ·exact h.closed d (US o ho d hd) p Oe
  have zu:(dm.setIfInBounds i true).size=l.length:=by simpa using eo
  have gh:i<dm.size:=by omega
  have hE: ∀j,(dm.setIfInBounds i true).getD j false=true↔dm.getD j false=true\/j=i:=λj=>by
    simp only[wz,Array.getElem?_setIfInBounds]
    by_cases hj:i=j
    ·subst hj;simp[gh]
    ·rw[if_neg hj]
     constructor
     ·exact .inl
     ·rintro(h|h)
      · exact h
      · exact absurd h.symm hj
  have sR:((List.range l.length).filter λj=>!(dm.setIfInBounds i true).getD j false).length<=l7:=by
    have:=GZ (p:=λj=>!dm.getD j false) (q:=λj=>!(dm.setIfInBounds i true).getD j false) (l:=List.range l.length) (λj _ hq=>by
     simp only[pC]at hq |-
     cases hb:dm.getD j false with
     |false=>rfl
     |true=>rw[(hE j).2 (.inl hb)]at hq;cases hq) (Bd.2 rX) (by simp[JT]) (by simp[(hE i).2 (.inr rfl)])
    omega
  have go: ∀{ds' σ':List Step}{zy:List (Nat×Env×AV)}{env':Env}{s':St}{a':Act}{w':World}{G':bZ},
     pq P N ρ l pre bN K gS G0 s0 w0 (λj=>(dm.setIfInBounds i true).getD j false=true) ds' σ' zy env' s' a' w' G'->wpAnyIn (uD ro) 0 P .any ops (gM G0 N ρ s0 w0 Q) l7 (dm.setIfInBounds i true) a' w':=by
    intro ds' σ' zy env' s' a' w' G' h'
    obtain⟨ds2,σ2,tr2,uE,s2,G2,h2,Q8⟩:=W1 hp h0 σ' h'
    exact ih _ ds2 σ2 tr2 uE s2 a' w' G2 zu sR h2 Q8 λx y GY=>(hE x).2 (.inl (hX x y GY))
  simp only[wpOpIn,UR]
  have lg:=gi ho
  by_cases eP:i∈jk ds
  ·
    have Oe: ∀p∈il pre i,p∈jk ds:=kf hp h.split eP
    obtain⟨o',q1,uN,q3⟩:=h.IU i eP qt
    rw[ho]at q1;cases q1
    rcases q3 with⟨hg,e,v,p1,p2,p3,_⟩|⟨hg,p1⟩
    ·rw[if_pos (qu hl hp h hg j7 Oe qt)]
     have hve:iX G e a.tmps:=λt x hx=>by
      obtain⟨r1,r2⟩:=Bt hp h (p1 t x hx) j7 Oe qt
      exact⟨by rw[h.size];exact r1,r2⟩
     obtain⟨nx,u,G',w',e1,e2,e3,e4,e5⟩:=uJ h.iE hve o p2
     refine⟨λ_ _=>trivial,?_⟩
     rw[Oper.semAt_eq _ _ _ (λc=>by intro e;rw[e]at uN;simp[fN]at uN),e1]
     have uy:=xz hp h0 h ho eP qt j7 (v:=u) (λt ht x hx=>by rw[p3 t ht]at hx;cases hx;exact e3) e4 e5 hE
     rcases e2 with rfl|⟨rfl,rfl⟩
     ·rw[Oper.uponIn_value];exact go uy
     ·rw[Oper.uponIn_skip];exact go uy
    ·rw[if_neg (by rw[qu hl hp h hg j7 Oe qt];simp)]
     exact⟨λ_ _=>trivial,go (xz hp h0 h ho eP qt j7 (λt ht x hx=>by rw[p1 t ht]at hx;cases hx;exact .dW [] #[] rfl (by simp)) h.iE (.refl _ _ _) hE)⟩
  ·
    have td:i∈bN.map Step.idx:=hp.perm.2.1 i (Bd.2 rX)
    rw[h.split,CE,la]at td
    rcases td with td|td
    ·exact absurd td eP
    ·cases σ with
     |nil=>cases td
     |cons st r=>
      obtain⟨hw,UT⟩:=hn st r rfl
      by_cases his:i=st.idx
      · subst his
        exact IV hl hp h0 ro h hw ho qt j7 eP hE go
      ·
        have hir:i∈r.map Step.idx:=by
         rcases mB.1 td with h|h
         ·exact absurd h his
         ·exact h
        obtain⟨st2,Fo,rfl⟩:=kb.1 hir
        have hk:bN[ds.length]? =some st:=by rw[h.split];simp
        have hws:=hp.waits ds.length (by rw[Bd,h.split];simp) st hk hw st2 (by rw[h.split];simpa using Fo)
        rcases hws with ha|hpr|wD
        ·cases st2 with
         |ig _ _=>cases ha
         |gW _ _=>cases ha
         |alloc i=>
          simp only[Step.idx]at *
          have jZ:Step.alloc i∈bN:=by rw[h.split];simp[Fo]
          obtain⟨k1,k2,k3⟩:=hp.kinds _ jZ o ho
          rw[if_pos (by simp[Region.wanted,k2])]
          obtain⟨t,ht⟩:=zY.1 k3
          cases xp:o.op with
          |alloc ty=>
           rw[xp]at k1
           simp only at k1
           obtain⟨z,hz⟩:=zY.1 k1
           obtain⟨zv,NG,Kt⟩:=jO (Be hz) w G
           have z7:=VL.cells Kt (Bv (Be hz))
           obtain⟨g1,g2⟩:=h.iE.grow (.cells zv.cells ty)
           refine⟨λ_ _=>trivial,?_⟩
           have UU:(execOp a.eval o).run P w=.ok (.value (.pointer (some ⟨w.heap.size,0,none⟩))) (w.alloc (.cells zv.cells ty)):=by
            simp[execOp,xp,Instr.alloc,NG,newVar,newRow]
           rw[Oper.semAt_eq _ _ _ (λc=>by rw[xp];simp),UU,Oper.uponIn_value]
           have NF:t<a.tmps.size:=by
            have h2:=(py.1 hp.IR) o (gx ho)
            rw[ht]at h2
            rw[h.size];simpa[l9]using h2
           refine go (ds':=ds) (σ':=st::r) (zy:=tr) (env':=bI) (s':=s) (G':=G) ⟨h.split,h.run,g1,h.ext.trans h0 g2,by rw[xy];exact h.size,by rw[pR];exact h.lQ,h.known,λj hj=>?_,λj hj p ku=>?_,λj hj=>?_,λst3 ia hw=>(hE _).2 (.inl (h.wait st3 ia hw)),λt' x wD Uy=>?_,λj hj sP t' zf x wD=>?_,h.e0,λj hj ER=>?_,λi1 j1 h1 h2 h3 h4 pz t1 t2 d1 d2=>?_⟩
           ·rcases(hE j).1 hj with hj|rfl
            ·exact h.lt j hj
            ·exact rX
           ·rcases(hE j).1 hj with hj|rfl
            ·exact(hE p).2 (.inl (h.closed j hj p ku))
            ·exact(hE p).2 (.inl (j7 p ku))
           ·rcases(hE j).1 hj with hj|rfl
            ·rcases h.sub j hj with hd|⟨hd,he⟩
             ·exact .inl hd
             ·refine .inr ⟨hd,he.later h.iE g2 λt' zf=>(iO λe=>?_).2⟩
              have:=gq hp (by rw[lg];exact e) zf
              subst this;exact qt hj
            ·refine .inr ⟨by simp[Fo],o,t,ty,z,w.heap.size,zv.cells,ty,ho,xp,ht,hz,?_,?_,z7,?_,λj=>?_,h.ext.size⟩
             ·rw[ht];exact(kY NF).2
             ·show(w.heap.push _)[w.heap.size]? =_;simp
             ·rintro⟨id,blk,r',q1,q2,q3⟩
              have:=h.iE.iY q1 q2
              omega
             ·cases hj:G.gD w.heap.size j with
              |none=>rfl
              |some u=>have:=h.iE.rR hj;omega
           ·have h1:o.dst≠some t':=λe=>Uy i ((hE i).2 (.inr rfl)) (by rw[lg];exact e)
            rw[(iO h1).1]
            exact h.s1 t' x wD λj hj=>Uy j ((hE j).2 (.inl hj))
           ·rcases(hE j).1 hj with hj|rfl
            ·have h1:o.dst≠some t':=λe=>by
              have:=gq hp (by rw[lg];exact e) zf
              subst this;exact qt hj
             rw[(iO h1).1]
             exact h.s2 j hj sP t' zf x wD
            ·exact absurd sP eP
           ·exact h.IU j hj λe=>ER ((hE j).2 (.inl e))
           ·have Af:im l i=some t:=by rw[lg];exact ht
            have wc:(a.put o.dst (.pointer (some ⟨w.heap.size,0,none⟩))).tmps[t]? =some (.pointer (some ⟨w.heap.size,0,none⟩)):=by rw[ht];exact(kY NF).2
            have pD: ∀{k tk},dm.getD k false=true->Step.alloc k∈st::r->im l k=some tk->(a.put o.dst (.pointer (some ⟨w.heap.size,0,none⟩))).tmps[tk]? =a.tmps[tk]?/\a.tmps[tk]?≠some (.pointer (some ⟨w.heap.size,0,none⟩)):=λ{k tk}hk KL KM=>by
             refine⟨(iO λe=>?_).2,?_⟩
             ·have:=gq hp (by rw[lg];exact e) KM
              subst this;exact qt hk
             ·rcases h.sub k hk with hd|⟨_,he⟩
              ·exact absurd hd (jS hp h.split KL)
              ·obtain⟨ok,tk',tyk,zk,bk,csk,ek,k1,k2,k3,k4,k5,k6,_⟩:=he
               have:tk'=tk:=by rw[gi k1,k3]at KM;exact Option.some.inj KM
               subst this
               rw[k5]
               intro e
               cases e
               rw[X6 (eu _)]at k6
               cases k6
            rcases(hE i1).1 h1 with g1|g1<;>rcases(hE j1).1 h2 with g2|g2
            ·rw[(pD g1 h3 d1).1,(pD g2 h4 d2).1]
             exact h.C4 i1 j1 g1 g2 h3 h4 pz t1 t2 d1 d2
            ·subst g2
             rw[Af]at d2;cases d2
             rw[(pD g1 h3 d1).1,wc]
             exact(pD g1 h3 d1).2
            ·subst g1
             rw[Af]at d1;cases d1
             rw[(pD g2 h4 d2).1,wc]
             exactλe=>(pD g2 h4 d2).2 e.symm
            ·exact absurd (g1.trans g2.symm) pz
          |_=>rw[xp]at k1;exact k1.elim
        ·exact absurd (j7 _ hpr) UT
        ·exact absurd (hX _ _ wD) UT
theorem KP{id:Nat}{ops:Array Oper}{Q:Exit->Env->St->Prop}{bI:Env}{s:St}(pre:List (List Nat))(bN:List Step)(l:List Oper)(hl:ops.toList=l)(hm:P.follows .mixedOrders=true)(hp:KI P N l pre bN)
  (h:zi P l (λbI s=>Q .normal bI s) bN [] bI s):lA P N ρ (.region id ops true) Q bI s:=λG w a hn=>by
 refine wpIn_region_any hm ?_
 have eo:ops.size=l.length:=by rw[<-hl];simp
 have hd:pq P N ρ l pre bN (λbI s=>Q .normal bI s) bI G s w (λi=>(Array.replicate ops.size false).getD i false=true) [] bN [] bI s a {w with drawn:=w.drawn+1} G:=by
  have rh: ∀i,¬(Array.replicate ops.size false).getD i false=true:=λi=>by
   simp only[wz,Array.getElem?_replicate]
   split<;>simp
  exact⟨rfl,h,hn.iE.drew,Ext.drew G s w,hn.size,hn.lQ,hn.known,λi hi=>absurd hi (rh i),λi hi=>absurd hi (rh i),λi hi=>absurd hi (rh i),(λst ia=>by cases ia),
   (λt x hx _=>by have:=hn.bI t x hx;rw[hn.size]at this;exact this),λi hi=>absurd hi (rh i),λt _=>rfl,(λi hi=>by cases hi),λi _ hi=>absurd hi (rh i)⟩
 obtain⟨ds',σ',zy,env',s',G',h',lY⟩:=W1 hp hn.iE bN hd
 exact IX hl hp hn.iE (λ_ _ h=>h) _ ops.size _ ds' σ' zy env' s' a _ G' (by simp[eo]) (by rw[eo];exact vS (sM _ _) (by simp)) h' lY λ_ _ h=>h.elim
end
end Go.Am
end
section
namespace Go.Am
open Go.RowKit
theorem eA.UW{G G':bZ}{s s':St}{w w':World}{id:Nat}{blk:gp}(h:eA G ⟨(id,blk)::s.heap,s.bS⟩ w)(jC:id<s.bS)(rh:bH s.heap id=none)
  (h':eA G' s' w') (x:Ext G s w G' s' w'):eA G' ⟨(id,blk)::s'.heap,s'.bS⟩ w'/\Ext G ⟨(id,blk)::s.heap,s.bS⟩ w G' ⟨(id,blk)::s'.heap,s'.bS⟩ w':=by
 have aar:bH s'.heap id=none:=by
  cases hq:bH s'.heap id with
  |none=>rfl
  |some b=>
   rcases x.ids id b hq with⟨b0,e⟩|e
   ·rw[rh]at e;cases e
   ·omega
 have Ag:bH ((id,blk)::s.heap) id=some blk:=by simp[cR,cG]
 rcases h.heap id blk Ag with⟨r,o,e1,e2,e3⟩|⟨en,em⟩
 case inr=>
  have jf: ∀{l:List (Nat×gp)}i b,bH ((id,blk)::l) i=some b->(i=id/\b=blk)\/(i≠id/\bH l i=some b):=λi b hg=>by
   simp only[cR,cG]at hg
   split at hg
   ·cases hg;exact .inl ⟨by omega,rfl⟩
   ·exact .inr ⟨by omega,hg⟩
  have up: ∀i b,bH s.heap i=some b->bH ((id,blk)::s.heap) i=some b:=λi b hg=>by
   have:id≠i:=λe=>by subst e;rw[rh]at hg;cases hg
   simp[cR,cG,this,hg]
  have W3:=x.stay id jC en
  have xA: ∀b,lI G s b->lI G ⟨(id,blk)::s.heap,s.bS⟩ b:=λb ⟨i,b',r',g1,g2,g3⟩=>⟨i,b',r',up i b' g1,g2,g3⟩
  refine⟨⟨h'.gD,?_,?_,?_,h'.cq,?_⟩,⟨x.le,x.os,x.tape,x.output,x.size,?_,?_,?_,?_,x.bS,?_,x.stay,x.drawn⟩⟩
  ·intro i b hg
   rcases jf i b hg with⟨rfl,rfl⟩|⟨_,hg⟩
   ·exact .inr ⟨W3,em⟩
   ·exact h'.heap i b hg
  ·intro i i' b b' r1 r2 h1 h2 o1 o2 eJ
   rcases jf i b h1 with⟨rfl,rfl⟩|⟨n1,g1⟩<;>rcases jf i' b' h2 with⟨rfl,rfl⟩|⟨n2,g2⟩
   ·exact absurd rfl eJ
   ·rw[W3]at o1;cases o1
   ·rw[W3]at o2;cases o2
   ·exact h'.apart i i' b b' r1 r2 g1 g2 o1 o2 eJ
  ·intro i b r1 j hg ho
   rcases jf i b hg with⟨rfl,rfl⟩|⟨_,hg⟩
   ·rw[W3]at ho;cases ho
   ·exact h'.clear i b r1 j hg ho
  ·intro i b hg
   show i<s'.bS
   rcases jf i b hg with⟨rfl,rfl⟩|⟨_,hg⟩
   ·exact QN jC x.bS
   ·exact h'.lt i b hg
  ·intro b hb hn
   exact x.keep b hb λe=>hn (xA b e)
  ·intro b o v hi
   rcases x.jh b o v hi with g|g|g
   ·exact .inl g
   ·exact .inr (.inl g)
   ·exact .inr (.inr (xA b g))
  ·intro i r' hi
   rcases x.iK i r' hi with g|g|g
   ·exact .inl g
   ·exact .inr (.inl g)
   ·exact .inr (.inr (xA _ g))
  ·intro i b hg
   rcases jf i b hg with⟨rfl,rfl⟩|⟨_,hg⟩
   ·exact .inl ⟨b,Ag⟩
   ·rcases x.ids i b hg with⟨b0,g⟩|g
    ·exact .inl ⟨b0,up i b0 g⟩
    ·exact .inr g
  ·intro i hi
   rcases jf i .gb hi with⟨rfl,hb⟩|⟨n,g⟩
   ·simp[cR,cG,<-hb]
   ·have:=x.gb i g
    simp only[cR,cG]
    rw[if_neg (λe=>n e.symm)]
    exact this
 have gh:r.block<w.heap.size:=h.iY Ag e1
 have jf: ∀{l:List (Nat×gp)}i b,bH ((id,blk)::l) i=some b->(i=id/\b=blk)\/(i≠id/\bH l i=some b):=λi b hg=>by
  simp only[cR,cG]at hg
  split at hg
  ·cases hg;exact .inl ⟨by omega,rfl⟩
  ·exact .inr ⟨by omega,hg⟩
 have up: ∀i b,bH s.heap i=some b->bH ((id,blk)::s.heap) i=some b:=λi b hg=>by
  have:id≠i:=λe=>by subst e;rw[rh]at hg;cases hg
  simp[cR,cG,this,hg]
 have Bw: ¬lI G s r.block:=by
  rintro⟨i,b,r',g1,g2,g3⟩
  have eJ:i≠id:=λe=>by subst e;rw[rh]at g1;cases g1
  exact h.apart i id b blk r' r (up i b g1) Ag g2 e1 eJ g3
 have xA: ∀b,lI G s b->lI G ⟨(id,blk)::s.heap,s.bS⟩ b:=λb ⟨i,b',r',g1,g2,g3⟩=>⟨i,b',r',up i b' g1,g2,g3⟩
 have Tu: ∀i b r',bH s'.heap i=some b->G'.own i=some r'->r'.block≠r.block:=λi b r' g1 g2 e=>by
  rcases x.iK i r' g2 with g|g|g
  ·rcases x.ids i b g1 with⟨b0,g0⟩|g0
   ·exact Bw ⟨i,b0,r',g0,g,e⟩
   ·have:=h.cq i g0
    rw[this]at g;cases g
  ·omega
  ·rw[e]at g;exact Bw g
 refine⟨⟨h'.gD,?_,?_,?_,h'.cq,?_⟩,⟨x.le,x.os,x.tape,x.output,x.size,?_,?_,?_,?_,x.bS,?_,x.stay,x.drawn⟩⟩
 ·intro i b hg
  rcases jf i b hg with⟨rfl,rfl⟩|⟨_,hg⟩
  ·exact .inl ⟨r,o,x.le.own _ _ e1,by rw[x.keep _ gh Bw];exact e2,e3.mono x.le⟩
  ·exact h'.heap i b hg
 ·intro i i' b b' r1 r2 h1 h2 o1 o2 eJ
  rcases jf i b h1 with⟨rfl,rfl⟩|⟨n1,g1⟩<;>rcases jf i' b' h2 with⟨rfl,rfl⟩|⟨n2,g2⟩
  ·exact absurd rfl eJ
  ·rw[x.le.own _ _ e1]at o1;cases o1
   exactλe=>Tu i' b' r2 g2 o2 e.symm
  ·rw[x.le.own _ _ e1]at o2;cases o2
   exact Tu i b r1 g1 o1
  ·exact h'.apart i i' b b' r1 r2 g1 g2 o1 o2 eJ
 ·intro i b r1 j hg ho
  rcases jf i b hg with⟨rfl,rfl⟩|⟨_,hg⟩
  ·rw[x.le.own _ _ e1]at ho;cases ho
   cases hq:G'.gD r.block j with
   |none=>rfl
   |some v=>
    rcases x.jh _ _ _ hq with g|g|g
    ·rw[h.clear i b r j Ag e1]at g;cases g
    ·omega
    ·exact absurd g Bw
  ·exact h'.clear i b r1 j hg ho
 ·intro i b hg
  show i<s'.bS
  rcases jf i b hg with⟨rfl,rfl⟩|⟨_,hg⟩
  ·exact QN jC x.bS
  ·exact h'.lt i b hg
 ·intro b hb hn
  exact x.keep b hb λe=>hn (xA b e)
 ·intro b o v hi
  rcases x.jh b o v hi with g|g|g
  ·exact .inl g
  ·exact .inr (.inl g)
  ·exact .inr (.inr (xA b g))
 ·intro i r' hi
  rcases x.iK i r' hi with g|g|g
  ·exact .inl g
  ·exact .inr (.inl g)
  ·exact .inr (.inr (xA _ g))
 ·intro i b hg
  rcases jf i b hg with⟨rfl,rfl⟩|⟨_,hg⟩
  ·exact .inl ⟨b,Ag⟩
  ·rcases x.ids i b hg with⟨b0,g⟩|g
   ·exact .inl ⟨b0,up i b0 g⟩
   ·exact .inr g
 ·intro i hi
  rcases jf i .gb hi with⟨rfl,hb⟩|⟨n,g⟩
  ·simp[cR,cG,<-hb]
  ·have:=x.gb i g
   simp only[cR,cG]
   rw[if_neg (λe=>n e.symm)]
   exact this
def ir:List Tmp->List AV->Env->Env
 |t::ts,x::xs,bI=>ir ts xs (dT bI t x)
 |_,_,bI=>bI
def gO(s:St)(id:Nat)(l:vq):St:=⟨dT s.heap id (.loop l),s.bS⟩
section
variable {P:Program} {N:Nat} {ρ:Option Nat} {Q:Exit->Env->St->Prop} {bI:Env} {s:St}
theorem iX.set{G:bZ}{tmps:Array Value}(h:iX G bI tmps){t:Nat}{x:AV}{v:Value}(ht:t<tmps.size)(hv:V G x v):iX G (dT bI t x) (tmps.setIfInBounds t v):=λu y hy=>by
 rw[eC]at hy
 split at hy
 ·rename_i he;subst he;cases hy
  exact⟨by simpa using ht,by simp[wz,ht];exact hv⟩
 ·rename_i he
  obtain⟨e1,e2⟩:=h u y hy
  refine⟨by simpa using e1,?_⟩
  rw[wz,Uc he,<-wz]
  exact e2
theorem iX.params{G:bZ}: ∀(ts:List Tmp)(xs:List AV)(vs:List Value)(bI:Env)(tmps:Array Value),iX G bI tmps->(∀t∈ts,t<tmps.size)->xs.length=vs.length->
  (∀(i:Nat)x y,xs[i]? =some x->vs[i]? =some y->V G x y)->iX G (ir ts xs bI) ((ts.zip vs).foldl (λtmps(t,a)=>tmps.setIfInBounds t a) tmps)
 | [],xs,vs,bI,tmps,h,_,_,_=>by simpa[ir]using h
 |t::ts,[],[],bI,tmps,h,_,_,_=>by simpa[ir]using h
 |t::ts,x::xs,v::vs,bI,tmps,h,ht,hl,hv=>by
  simp only[ir,List.zip_cons_cons,QV]
  refine iX.params ts xs vs _ _ (h.set (ht t (by simp)) (hv 0 x v rfl rfl)) (λu hu=>by simpa using ht u (by simp[hu])) (by simpa using hl) (λi a b ha hb=>hv (i+1) a b (by simpa using ha) (by simpa using hb))
 |t::ts,x::xs,[],bI,tmps,h,_,hl,_=>by simp at hl
 |t::ts,[],v::vs,bI,tmps,h,_,hl,_=>by simp at hl
theorem vA: ∀(ts:List Tmp)(vs:List Value)(tmps:Array Value),((ts.zip vs).foldl (λtmps(t,a)=>tmps.setIfInBounds t a) tmps).size=tmps.size
 | [],vs,tmps=>by simp
 |t::ts,[],tmps=>by simp
 |t::ts,v::vs,tmps=>by simp only[List.zip_cons_cons,QV];rw[vA ts vs];simp
def pS(id:Nat)(Q:AV->St->Prop):Exit->Env->St->Prop
 |.normal,_,s=> ∃l,bH s.heap id=some (.loop l)/\Q (.bool true) (gO s id {l with state:=.ready,pending:=none})
 |.ret,_,s=> ∃l,bH s.heap id=some (.loop l)/\Q (.bool false) (gO s id {l with state:=.done,pending:=some .ret})
 |.exit i,_,s=> ∃l,bH s.heap id=some (.loop l)/\Q (.bool false) (gO s id {l with state:=.done,pending:=some (.exit i)})
 |_,_,_=>False
theorem qw{G:bZ}{w:World}(h:eA G s w){id:Nat}{l:vq}{r:ux}(hg:bH s.heap id=some (.loop l))(ho:G.own id=some r):
  ∃fn tmps d,w.heap[r.block]? =some (.loop {state:=l.state,pending:=l.pending,fn:=fn,tmps:=tmps,params:=l.params.toArray,assign:=l.assign,body:=l.body,defers:=d})/\tmps.size=l.ntmps/\iX G l.bI tmps:=by
 obtain⟨o,e2,e3⟩:=h.at hg ho
 cases e3 with
 |loop _ fn tmps d eo hV=>exact⟨fn,tmps,d,e2,eo,hV⟩
theorem qx{G:bZ}{w:World}(h:eA G s w){id:Nat}{l l':vq}{r:ux}{fn:FuncId}{tmps:Array Value}{d:Nat}(hg:bH s.heap id=some (.loop l))(ho:G.own id=some r)
  (hw:w.heap[r.block]? =some (.loop {state:=l.state,pending:=l.pending,fn:=fn,tmps:=tmps,params:=l.params.toArray,assign:=l.assign,body:=l.body,defers:=d}))
  (eo:tmps.size=l.ntmps) (hV:iX G l.bI tmps) (hl:l'={l with state:=l'.state,pending:=l'.pending}):
  eA G (gO s id l') (w.putObj r.block (.loop {state:=l'.state,pending:=l'.pending,fn:=fn,tmps:=tmps,params:=l.params.toArray,assign:=l.assign,body:=l.body,defers:=d}))/\
  Ext G s w G (gO s id l') (w.putObj r.block (.loop {state:=l'.state,pending:=l'.pending,fn:=fn,tmps:=tmps,params:=l.params.toArray,assign:=l.assign,body:=l.body,defers:=d})):=by
 refine h.turn (o:=.loop {state:=l'.state,pending:=l'.pending,fn:=fn,tmps:=tmps,params:=l.params.toArray,assign:=l.assign,body:=l.body,defers:=d}) hg ho (by simp) rfl rfl rfl
  (λb hb=>World.putObj_heap_other hb) (World.putObj_heap_same (PH.1 hw).1) ?_ (by simp)
 rw[hl]
 exact .loop _ fn tmps d eo hV
theorem Rc{id:Nat}{args:List AV}{K:AV->St->Prop}{l:vq}(hg:bH s.heap id=some (.loop l))(dt:args.length=l.params.length)(Ir:(l.params.all λt=>decide (t<l.ntmps))=true)
  (h:lA P l.ntmps (some id) l.assign (QZ (λRe s1=> ∃l1,bH s1.heap id=some (.loop l1)/\l1.state=.ready/\
   lA P l.ntmps (some id) l.body (pS id K) Re (gO s1 id {l1 with state:=.busy})) (λ_ _ _=>False)) (ir l.params args l.bI) s):iM P id args s K:=by
 intro o G w r vs hs ho hv
 obtain⟨fn,tmps,d,hw,eo,hV⟩:=qw hs hg ho
 refine⟨fn,_,l.assign,l.body,run_yield hw (by have:=hv.1;simp;omega),roundIn_of_wpIn trivial ?_⟩
 have Rf:vu G (some id):=λi e=>by cases e;exact⟨r,ho⟩
 have UX:vW G (some id)=some r.block:=by simp[vW,ho]
 have UY:((l.params.toArray.zip vs).foldl (λtmps(t,a)=>tmps.setIfInBounds t a) tmps)=((l.params.zip vs.toList).foldl (λtmps(t,a)=>tmps.setIfInBounds t a) tmps):=by
  rw[<-Array.foldl_toList,Array.toList_zip]
 have UZ: ∀t∈l.params,t<l.ntmps:=λt ht=>by simpa using py.1 Ir t ht
 have IQ:wB G l.ntmps (some id) (ir l.params args l.bI) s {tmps:=(l.params.toArray.zip vs).foldl (λtmps(t,a)=>tmps.setIfInBounds t a) tmps,defers:=[]} w:=by
  rw[UY]
  exact⟨hs,hV.params l.params args vs.toList l.bI tmps (λt ht=>by rw[eo];exact UZ t ht) (by simpa using hv.1) (λi x y hx hy=>hv.2 i x y hx (by simpa using hy)),by rw[vA,eo],trivial,Rf⟩
 have h1:=h G w _ IQ
 rw[UX]at h1
 refine wpIn_mono h1 ?_
 rintro e a1 w1 ⟨G1,Re,s1,n1,x1,q1⟩
 cases e with
 |normal=>
  obtain⟨l1,g1,hr1,hb⟩:=q1
  have W4:=x1.le.own _ _ ho
  obtain⟨fn1,aao,d1,C8,YY,hV1⟩:=qw n1.iE g1 W4
  obtain⟨t1,t2⟩:=qx n1.iE (l':={l1 with state:=.busy}) g1 W4 C8 YY hV1 rfl
  refine⟨_,run_beginRound C8 hr1,?_⟩
  have n2:wB G1 l.ntmps (some id) Re (gO s1 id {l1 with state:=.busy}) a1 _:=⟨t1,n1.bI,n1.size,n1.lQ.ext t2,n1.known⟩
  have h2:=hb G1 _ a1 n2
  have Rh:vW G1 (some id)=some r.block:=by simp[vW,W4]
  rw[Rh]at h2
  refine wpIn_mono h2 ?_
  rintro e a3 w3 ⟨G3,Of,s3,n3,x3,q3⟩
  have ho3:=x3.le.own _ _ W4
  have x03:=(x1.trans hs t2).trans hs x3
  have fin: ∀(jump:Option Code)(l3:vq)(g3:bH s3.heap id=some (.loop l3)),K (.bool jump.isNone) (gO s3 id {l3 with state:=if jump.isNone then .ready else .done,pending:=jump})->
    ∃v w',(Instr.endRound r.block jump).run P w3=.ok v w'/\vX G s w K (.returned v) w':=by
   intro jump l3 g3 hk
   obtain⟨W5,G7,d3,PW,KQ,YZ⟩:=qw n3.iE g3 ho3
   obtain⟨u1,u2⟩:=qx n3.iE (l':={l3 with state:=if jump.isNone then .ready else .done,pending:=jump}) g3 ho3 PW KQ YZ rfl
   exact⟨_,_,run_endRound jump PW,.bool jump.isNone,G3,_,_,rfl,.bool _,u1,x03.trans hs u2,hk⟩
  cases e with
  |normal=>obtain⟨l3,g3,hk⟩:=q3;exact fin none l3 g3 hk
  |ret=>obtain⟨l3,g3,hk⟩:=q3;exact fin (some .ret) l3 g3 hk
  |exit i=>obtain⟨l3,g3,hk⟩:=q3;exact fin (some (.exit i)) l3 g3 hk
  |goto t=>exact q3.elim
  |panic ch=>exact q3.elim
  |outgrown=>exact q3.elim
 |exit id=>exact q1.elim
 |goto t=>exact q1.elim
 |ret=>exact q1.elim
 |panic ch=>exact q1.elim
 |outgrown=>exact q1.elim
theorem G8{G:bZ}{w:World}(h:eA G s w): ∀{ds:List Deferred},om G s ds-> ∀d∈ds,∀b,d.target=.collected b->b<w.heap.size
 | [],_,d,hd,_,_=>by cases hd
 |e::ds,⟨⟨id,r,a,b,c,_⟩,hr⟩,d,hd,x,hx=>by
  rcases mB.1 hd with rfl|hd
  ·rw[c]at hx;cases hx;exact h.iY a b
  ·exact G8 h hr d hd x hx
def Bx(P:Program)(N:Nat)(ρ:Option Nat)(Q:Exit->Env->St->Prop)(bI:Env)(id:Nat)(marks:List (Nat×gp))(s:St):Prop:=
 ∃l,bH s.heap id=some (.loop l)/\l.state≠ .busy/\(match l.pending with
  |none=>Q .normal bI ⟨marks++eh s.heap id,s.bS⟩
  |some c=>lA P N ρ c Q bI ⟨marks++eh s.heap id,s.bS⟩)
theorem KR{g:Nat}(he:enters P g=true): ∀(args:Array Value)(w:World),(callFunc g args).run P w=.ok (.enter g args) w:=λargs w=>by
 unfold enters at he
 split at he
 case h_2=>cases he
 rename_i fn NX
 simp only[eW,bne_iff_ne,ne_eq]at he
 have KA: ¬fn.body=none:=by cases hb:fn.body<;>simp[hb]at he |-
 simp[callFunc,NX,he.1,KA]
theorem zA{g:Operand}{ps:Array Tmp}{assign body:Code}{gf:FuncId}{fH:List AV}(hg:oper bI g=some (.fn gf fH))(he:enters P gf=true)
  (h:dJ P gf (.kt (s.bS+1)::fH) ⟨(s.bS+1,.loop ⟨bI,N,ps.toList,assign,body,.ready,none⟩)::s.heap,s.bS+2⟩
   (λ_ s'=>Bx P N none Q bI (s.bS+1) [(s.bS,.gb)] s')):lA P N none (.rangeFunc g ps assign body) Q bI s:=λG w a hn=>by
 refine wpIn_rangeFunc λfn _=>?_
 have GR:=eB hn.bI hg
 generalize hq:a.eval g=fv at GR
 cases GR with
 |fn _ _ vs Nt It=>
  have hs:=hn.iE
  have U0:bH s.heap s.bS=none:=by
   cases hc:bH s.heap s.bS with
   |none=>rfl
   |some b=>exact absurd (hs.lt _ _ hc) (by omega)
  obtain⟨p1,p2⟩:=hs.put (o:=.deferred (some [])) (blk:=.gb) (r:=⟨w.heap.size,0,0,0⟩) rfl .gb
  have PN:iX (bZ.put G s.bS ⟨w.heap.size,0,0,0⟩) bI a.tmps:=hn.bI.mono p2.le
  obtain⟨p3,p4⟩:=p1.put (o:=.loop {state:=.ready,pending:=none,fn:=fn,tmps:=a.tmps,params:=ps,assign:=assign,body:=body,defers:=w.heap.size})
   (blk:=.loop ⟨bI,N,ps.toList,assign,body,.ready,none⟩) (r:=⟨w.heap.size+1,0,0,0⟩) (by simp)
   (by
    have:=Holds.loop (G:=bZ.put (bZ.put G s.bS ⟨w.heap.size,0,0,0⟩) (s.bS+1) ⟨w.heap.size+1,0,0,0⟩) (r:=⟨w.heap.size+1,0,0,0⟩) ⟨bI,N,ps.toList,assign,body,.ready,none⟩ fn a.tmps w.heap.size hn.size (PN.mono (.put (p1.cq _ (eu _))))
    simpa using this)
  generalize W6:bZ.put (bZ.put G s.bS ⟨w.heap.size,0,0,0⟩) (s.bS+1) ⟨w.heap.size+1,0,0,0⟩=G2 at p3 p4
  have KS:G2.own (s.bS+1)=some ⟨w.heap.size+1,0,0,0⟩:=by rw[<-W6];simp[bZ.put]
  have Y0:G2.own s.bS=some ⟨w.heap.size,0,0,0⟩:=by rw[<-W6];simp[bZ.put]
  generalize IY:(w.alloc (.deferred (some []))).alloc (.loop {state:=.ready,pending:=none,fn:=fn,tmps:=a.tmps,params:=ps,assign:=assign,body:=body,defers:=w.heap.size})=w2 at p3 p4
  have x02:=p2.trans hs p4
  have W7: ∀i,bH ((s.bS,gp.gb)::(s.bS+1,gp.loop ⟨bI,N,ps.toList,assign,body,.ready,none⟩)::s.heap) i=bH ((s.bS+1,gp.loop ⟨bI,N,ps.toList,assign,body,.ready,none⟩)::(s.bS,gp.gb)::s.heap) i:=λi=>by
   simp only[cR,cG]
   by_cases h1:s.bS=i
   ·rw[if_pos h1,if_neg (by omega),if_pos h1]
   ·rw[if_neg h1,if_neg h1]
  have p5:eA G2 ⟨(s.bS,.gb)::(s.bS+1,.loop ⟨bI,N,ps.toList,assign,body,.ready,none⟩)::s.heap,s.bS+2⟩ w2:=p3.drop (λi b hb=>by rw[<-W7];exact hb) (eu _)
  have p6:eA G2 ⟨(s.bS+1,.loop ⟨bI,N,ps.toList,assign,body,.ready,none⟩)::s.heap,s.bS+2⟩ w2:=p5.drop (λi b hb=>by
   simp only[cR,cG]at hb |-
   by_cases h1:s.bS=i
   ·subst h1;rw[if_neg (by omega),U0]at hb;cases hb
   ·rw[if_neg h1];exact hb) (eu _)
  have Fp:(a.eval g)=.func (.func gf) #[] vs:=hq
  refine⟨w.heap.size+1,[{target:=.collected w.heap.size,args:= #[]}],w2,{target:=.fn (.func gf) vs,args:= #[.func (.yield (w.heap.size+1)) #[] #[]]},w2,gf,
   #[.func (.yield (w.heap.size+1)) #[] #[]]++vs,w2,?_,?_,λ_ _=>trivial,?_,(λh=>by cases h),?_⟩
  ·rw[<-IY]
   exact run_enterLoop_outer _ _ _ _ _
  ·simp only[resolve,Fp]
   simp[go_sem]
  ·simp[invoke,go_sem,KR he]
  ·have KT:VL G2 (.kt (s.bS+1)::fH) (#[.func (.yield (w.heap.size+1)) #[] #[]]++vs):=by
    have l1:VL G2 [.kt (s.bS+1)] #[.func (.yield (w.heap.size+1)) #[] #[]]:=⟨rfl,λi x y hx hy=>by
     cases i with
     |zero=>simp at hx hy;subst hx;subst hy;exact .kt _ _ KS
     |succ i=>simp at hx⟩
    exact l1.append (VL.mono x02.le ⟨Nt,It⟩)
   refine(pG (h G2 w2 _ p6 KT)).mono ?_
   rintro e w3 ⟨v,G3,x,s3,rfl,YZ,W8,Tv,l,g3,ia,pT⟩
   obtain⟨q1,q2⟩:=p5.UW (s:=⟨(s.bS+1,.loop ⟨bI,N,ps.toList,assign,body,.ready,none⟩)::s.heap,s.bS+2⟩) (by simp) (by simp[cR,cG,U0]) W8 Tv
   have C9:=Tv.le.own _ _ KS
   have Ri:bH ((s.bS,gp.gb)::s3.heap) (s.bS+1)=some (.loop l):=by simp[cR,cG,g3]
   obtain⟨W5,G7,d3,PW,KQ,Rj⟩:=qw q1 Ri C9
   obtain⟨u1,u2⟩:=qx q1 (l':={l with state:=.exhausted}) Ri C9 PW KQ Rj rfl
   have x05:Ext G2 ⟨(s.bS+1,.loop ⟨bI,N,ps.toList,assign,body,.ready,none⟩)::(s.bS,.gb)::s.heap,s.bS+2⟩ w2 G2 ⟨(s.bS,.gb)::(s.bS+1,.loop ⟨bI,N,ps.toList,assign,body,.ready,none⟩)::s.heap,s.bS+2⟩ w2:=
    Ext.drop (λi b hb=>by rw[<-W7];exact hb) (eu _) (λi hi=>by rw[W7];exact hi)
   have Da:Ext G s w G3 _ _:=((x02.trans hs x05).trans hs q2).trans hs u2
   have Db: ∀i b,bH ([(s.bS,gp.gb)]++eh s3.heap (s.bS+1)) i=some b->bH (gO ⟨(s.bS,.gb)::s3.heap,s3.bS⟩ (s.bS+1) {l with state:=.exhausted}).heap i=some b:=λi b hb=>by
    simp only[vT,qY,cR,cG]at hb
    simp only[gO,eC]
    by_cases h1:s.bS=i
    ·subst h1;rw[if_neg (by omega)];simpa[cR,cG]using hb
    ·rw[if_neg h1,fw]at hb
     split at hb
     ·cases hb
     ·rename_i h2;rw[if_neg h2];simp only[cR,cG];rw[if_neg h1];exact hb
   have Dc: ∀i,bH (gO ⟨(s.bS,.gb)::s3.heap,s3.bS⟩ (s.bS+1) {l with state:=.exhausted}).heap i=some .gb->bH ([(s.bS,gp.gb)]++eh s3.heap (s.bS+1)) i=some .gb:=λi hi=>by
    simp only[gO,eC]at hi
    split at hi
    ·cases hi
    ·rename_i h2
     simp only[vT,qY,cR,cG]at hi |-
     split
     ·rfl
     ·rename_i h1;rw[if_neg h1]at hi;rw[fw,if_neg h2];exact hi
   have n4:wB G3 N none bI ⟨[(s.bS,.gb)]++eh s3.heap (s.bS+1),s3.bS⟩ {a with defers:={target:=.collected w.heap.size,args:= #[]}::a.defers} (w3.putObj (w.heap.size+1) (.loop {state:=.exhausted,pending:=l.pending,fn:=W5,tmps:=G7,params:=l.params.toArray,assign:=l.assign,body:=l.body,defers:=d3})):=by
    refine⟨u1.drop Db (eu _),hn.bI.mono Da.le,hn.size,⟨⟨s.bS,⟨w.heap.size,0,0,0⟩,by simp[cR,cG],Tv.le.own _ _ Y0,rfl,λd' uy b hb=>?_⟩,?_⟩,λi e=>by cases e⟩
    ·have:=G8 hs hn.lQ d' uy b hb
     show b≠w.heap.size
     omega
    ·exact(hn.lQ.ext Da).drop Dc
   have Bz:Ext G s w G3 ⟨[(s.bS,.gb)]++eh s3.heap (s.bS+1),s3.bS⟩ _:=Da.trans hs (Ext.drop Db (eu _) Dc)
   refine⟨l.pending,_,run_endLoop PW ia,?_⟩
   cases IZ:l.pending with
   |none=>
    simp only[IZ]at pT
    rw[IZ]at n4 Bz
    exact⟨G3,bI,_,n4,Bz,pT⟩
   |some c=>
    simp only[IZ]at pT
    rw[IZ]at n4 Bz
    exact lA.later pT hs hn.known Bz n4
theorem xC{iG:Nat}{l0:vq}(zB:bH s.heap iG=some (.loop l0)){g:Operand}{ps:Array Tmp}{assign body:Code}{gf:FuncId}{fH:List AV}(hg:oper bI g=some (.fn gf fH))(he:enters P gf=true)
  (h:dJ P gf (.kt s.bS::fH) ⟨(s.bS,.loop ⟨bI,N,ps.toList,assign,body,.ready,none⟩)::s.heap,s.bS+1⟩
   (λ_ s'=>Bx P N (some iG) Q bI s.bS [] s')):lA P N (some iG) (.rangeFunc g ps assign body) Q bI s:=λG w a hn=>by
 refine wpIn_rangeFunc λfn _=>?_
 have GR:=eB hn.bI hg
 generalize hq:a.eval g=fv at GR
 cases GR with
 |fn _ _ vs Nt It=>
  have hs:=hn.iE
  obtain⟨r0,hr0⟩:=hn.known iG rfl
  obtain⟨fn0,aap,d0,Us,_,_⟩:=qw hs zB hr0
  obtain⟨p3,p4⟩:=hs.put (o:=.loop {state:=.ready,pending:=none,fn:=fn,tmps:=a.tmps,params:=ps,assign:=assign,body:=body,defers:=d0})
   (blk:=.loop ⟨bI,N,ps.toList,assign,body,.ready,none⟩) (r:=⟨w.heap.size,0,0,0⟩) rfl
   (by
    have:=Holds.loop (G:=bZ.put G s.bS ⟨w.heap.size,0,0,0⟩) (r:=⟨w.heap.size,0,0,0⟩) ⟨bI,N,ps.toList,assign,body,.ready,none⟩ fn a.tmps d0 hn.size (hn.bI.mono (.put (hs.cq _ (eu _))))
    simpa using this)
  generalize W6:bZ.put G s.bS ⟨w.heap.size,0,0,0⟩=G2 at p3 p4
  have KS:G2.own s.bS=some ⟨w.heap.size,0,0,0⟩:=by rw[<-W6];simp[bZ.put]
  generalize IY:w.alloc (.loop {state:=.ready,pending:=none,fn:=fn,tmps:=a.tmps,params:=ps,assign:=assign,body:=body,defers:=d0})=w2 at p3 p4
  have Fp:(a.eval g)=.func (.func gf) #[] vs:=hq
  refine⟨w.heap.size,[],w2,{target:=.fn (.func gf) vs,args:= #[.func (.yield w.heap.size) #[] #[]]},w2,gf,
   #[.func (.yield w.heap.size) #[] #[]]++vs,w2,?_,?_,λ_ _=>trivial,?_,(λh=>by cases h),?_⟩
  ·rw[<-IY,show(uD (vW G (some iG))).round=some r0.block from by simp[uD,vW,hr0]]
   exact run_enterLoop_inner Us _ _ _ _ _
  ·simp only[resolve,Fp]
   simp[go_sem]
  ·simp[invoke,go_sem,KR he]
  ·have KT:VL G2 (.kt s.bS::fH) (#[.func (.yield w.heap.size) #[] #[]]++vs):=by
    have l1:VL G2 [.kt s.bS] #[.func (.yield w.heap.size) #[] #[]]:=⟨rfl,λi x y hx hy=>by
     cases i with
     |zero=>simp at hx hy;subst hx;subst hy;exact .kt _ _ KS
     |succ i=>simp at hx⟩
    exact l1.append (VL.mono p4.le ⟨Nt,It⟩)
   refine(pG (h G2 w2 _ p3 KT)).mono ?_
   rintro e w3 ⟨v,G3,x,s3,rfl,YZ,W8,Tv,l,g3,ia,pT⟩
   have C9:=Tv.le.own _ _ KS
   obtain⟨W5,G7,d3,PW,KQ,Rj⟩:=qw W8 g3 C9
   obtain⟨u1,u2⟩:=qx W8 (l':={l with state:=.exhausted}) g3 C9 PW KQ Rj rfl
   have Da:Ext G s w G3 _ _:=(p4.trans hs Tv).trans hs u2
   have Db: ∀i b,bH ([]++eh s3.heap s.bS) i=some b->bH (gO s3 s.bS {l with state:=.exhausted}).heap i=some b:=λi b hb=>by
    simp only[qY,fw]at hb
    simp only[gO,eC]
    split at hb
    ·cases hb
    ·rename_i h2;rw[if_neg h2];exact hb
   have Dc: ∀i,bH (gO s3 s.bS {l with state:=.exhausted}).heap i=some .gb->bH ([]++eh s3.heap s.bS) i=some .gb:=λi hi=>by
    simp only[gO,eC]at hi
    split at hi
    ·cases hi
    ·rename_i h2
     simp only[qY]
     rw[fw,if_neg h2];exact hi
   have Bz:Ext G s w G3 ⟨[]++eh s3.heap s.bS,s3.bS⟩ _:=Da.trans hs (Ext.drop Db (eu _) Dc)
   have n4:wB G3 N (some iG) bI ⟨[]++eh s3.heap s.bS,s3.bS⟩ {a with defers:=[]++a.defers} (w3.putObj w.heap.size (.loop {state:=.exhausted,pending:=l.pending,fn:=W5,tmps:=G7,params:=l.params.toArray,assign:=l.assign,body:=l.body,defers:=d3})):=
    ⟨u1.drop Db (eu _),hn.bI.mono Da.le,hn.size,by simpa using(hn.lQ.ext Da).drop Dc,hn.known.le Da.le⟩
   refine⟨l.pending,_,run_endLoop PW ia,?_⟩
   cases IZ:l.pending with
   |none=>
    simp only[IZ]at pT
    rw[IZ]at n4 Bz
    exact⟨G3,bI,_,n4,Bz,pT⟩
   |some c=>
    simp only[IZ]at pT
    rw[IZ]at n4 Bz
    exact lA.later pT hs hn.known Bz n4
end
end Go.Am
end
section
namespace Go.Am
open Go.RowKit
def xD(n:Nat)(p:Nat->Bool):Bool:=(List.range n).all p
def oB{α:Type}(o:Option α)(p:α->Bool):Bool:=match o with
 |some x=>p x
 |none=>true
theorem jH{α:Type}{o:Option α}{p:α->Bool}:oB o p=true↔ ∀x∈o,p x=true:=by
 cases o<;>simp[oB]
def jl(x:Nat)(l:List Nat):Bool:=l.any λy=>Nat.beq x y
theorem nB{x:Nat}{l:List Nat}:jl x l=true↔x∈l:=by
 simp only[jl,w9]
 constructor
 ·rintro⟨y,h1,h2⟩;rw[iU h2];exact h1
 ·intro h;exact⟨x,h,Nu x⟩
def Rk(l:List Oper)(pre:List (List Nat)):Bool:=xD l.length λi=>oB l[i]? λo=>
 (direct o).all (λp=>decide (p<i))&&(il pre i).all λp=>decide (p<i)&&(jl p (direct o)||(direct o).any λd=>jl p (il pre d))
def Tw(a b:Option Nat):Bool:=match a,b with
 |some x,some y=>Nat.beq x y
 |_,_=>false
theorem Dd{a b:Option Nat}{t:Nat}(ha:a=some t)(hb:b=some t):Tw a b=true:=by subst ha;subst hb;exact Nu t
theorem Og{a b:Option Nat}:Tw a b=true-> ∃t,a=some t/\b=some t:=by
 unfold Tw
 split
 ·rename_i x y;intro h;exact⟨x,rfl,by rw[iU h]⟩
 ·intro h;cases h
def U1(l:List Oper):Bool:=xD l.length λi=>xD l.length λj=>!(Tw (im l i) (im l j))||Nat.beq i j
def Rl(l:List Oper)(pre:List (List Nat)):Bool:=xD l.length λi=>oB l[i]? λo=>(ik o++vy l o).all λt=>
 (il pre i).any (λu=>Tw (im l u) (some t))||xD l.length λu=>!(Tw (im l u) (some t))||jl i (il pre u)
def PX(l:List Oper)(bN:List Step):Bool:=bN.all (λst=>decide (st.idx<l.length))&&xD l.length (λi=>jl i (bN.map Step.idx))&&decide (bN.map Step.idx).Nodup
def Oh(pre:List (List Nat))(bN:List Step):Bool:=xD bN.length λk=>oB bN[k]? λst=>(il pre st.idx).all λp=>jl p ((bN.take k).map Step.idx)
def xB(xs:List (Nat×Nat))(x y:Nat):Bool:=xs.any λp=>Nat.beq p.1 x&&Nat.beq p.2 y
def Rm(xs:List (Nat×Nat))(pre:List (List Nat))(bN:List Step):Bool:=xD bN.length λk=>oB bN[k]? λst=>!st.waits||(bN.drop (k+1)).all λst2=>st2.GW||jl st.idx (il pre st2.idx)||xB xs st.idx st2.idx
def Rn(P:Program)(l:List Oper)(bN:List Step):Bool:=bN.all λst=>oB l[st.idx]? λo=>match st with
 |.ig _ _=>fN o.op
 |.gW _ _=>true
 |.alloc _=>(match o.op with|.alloc t=>(vr P t).isSome|_=>false)&&o.guard.isNone&&o.dst.isSome
def Oi(l:List Oper)(pre:List (List Nat))(bN:List Step):Bool:=xD bN.length λk=>oB bN[k]? λst=>match st with
 |.gW h wb=>(bN.take k).all λst2=>match st2 with
  |.ig j note=>oB l[j]? λo=>jR o.op||jl j (il pre h)||(note&&jl j wb)
  |_=>true
 |_=>true
def Fq(xs:List (Nat×Nat))(P:Program)(N:Nat)(l:List Oper)(pre:List (List Nat))(bN:List Step):Bool:=
 Rk l pre&&U1 l&&pN N l&&nA l&&Rl l pre&&PX l bN&&Oh pre bN&&Rm xs pre bN&&Rn P l bN&&Oi l pre bN
def KU(P:Program)(N:Nat)(l:List Oper)(pre:List (List Nat))(bN:List Step):Bool:=Fq [] P N l pre bN
theorem kg{n:Nat}{p:Nat->Bool}:xD n p=true↔ ∀i∈List.range n,p i=true:=by simp[xD,py]
theorem I0{xs:List (Nat×Nat)}{P:Program}{N:Nat}{l:List Oper}{pre:List (List Nat)}{bN:List Step}(h:Fq xs P N l pre bN=true):gy (λx y=>xB xs x y=true) P N l pre bN:=by
 simp only[Fq,eW]at h
 obtain⟨⟨⟨⟨⟨⟨⟨⟨⟨h1,h2⟩,h3⟩,h4⟩,h5⟩,h6⟩,h7⟩,h8⟩,h9⟩,UJ⟩:=h
 refine⟨?_,?_,h3,h4,?_,?_,?_,?_,?_,?_⟩
 ·intro i hi o ho
  have:=jH.1 (kg.1 h1 i hi) o ho
  simp only[eW,py,decide_eq_true_eq,sS,w9,nB]at this
  exact⟨this.1,λp hp=>⟨(this.2 p hp).1,(this.2 p hp).2⟩⟩
 ·intro i hi j hj t ht Ts
  have:=kg.1 (kg.1 h2 i hi) j hj
  simp only[sS,pC]at this
  rcases this with h|h
  ·rw[Dd (show im l i=some t from ht) Ts]at h;cases h
  ·exact iU h
 ·intro i hi o ho t ht
  have:=py.1 (jH.1 (kg.1 h5 i hi) o ho) t ht
  simp only[sS,w9]at this
  rcases this with⟨u,hu,h⟩|h
  ·obtain⟨t',e1,e2⟩:=Og h
   cases e2
   exact .inl ⟨u,hu,e1⟩
  ·refine .inr λu hu hd=>?_
   have:=kg.1 h u hu
   simp only[sS,pC]at this
   rcases this with g|g
   ·rw[Dd hd rfl]at g;cases g
   ·exact nB.1 g
 ·simp only[PX,eW,py,decide_eq_true_eq]at h6
  exact⟨h6.1.1,λi hi=>nB.1 (kg.1 h6.1.2 i hi),h6.2⟩
 ·intro k hk st ia p hp
  exact nB.1 (py.1 (jH.1 (kg.1 h7 k hk) st ia) p hp)
 ·intro k hk st ia hw st2 Fo
  have:=jH.1 (kg.1 h8 k hk) st ia
  simp only[hw,oe,GG,py,sS,eW,pC,nB]at this
  rcases this st2 Fo with(g|g)|g
  ·exact .inl g
  ·exact .inr (.inl g)
  ·exact .inr (.inr g)
 ·intro st ia o ho
  have:=jH.1 (py.1 h9 st ia) o ho
  cases st with
  |ig i n=>exact this
  |gW i c=>trivial
  |alloc i=>
   simp only[eW,Option.isNone_iff_eq_none]at this
   refine⟨?_,this.1.2,this.2⟩
   have h:=this.1.1
   show(match o.op with|.alloc t=>(vr P t).isSome=true|_=>False)
   cases xp:o.op<;>simp only[xp]at h |- <;>first|exact h|(cases h;done)
 ·intro k hk st ia
  have:=jH.1 (kg.1 UJ k hk) st ia
  cases st with
  |ig i n=>trivial
  |alloc i=>trivial
  |gW h wb=>
   intro st2 Fo
   have:=py.1 this st2 Fo
   cases st2 with
   |ig j note=>
    intro o ho
    have:=jH.1 this o ho
    simp only[sS,eW,nB]at this
    rcases this with(h|h)|h
    ·exact .inl h
    ·exact .inr (.inl h)
    ·exact .inr (.inr h)
   |gW i c=>trivial
   |alloc i=>trivial
theorem KV{P:Program}{N:Nat}{l:List Oper}{pre:List (List Nat)}{bN:List Step}(h:KU P N l pre bN=true):KI P N l pre bN:=
 let q:=I0 h
 ⟨q.KE,q.UH,q.IR,q.YP,q.reads,q.perm,q.KF,λk hk st ia hw st2 h2=>(q.waits k hk st ia hw st2 h2).imp id (Or.imp id λe=>by cases e),q.kinds,q.KG⟩
end Go.Am
end
